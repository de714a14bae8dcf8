import Derived.Test.YthandoangkckmaaGreatDoorSx7
namespace Go.Sx
section
variable {P : Program} {w0 : World} {F : Nat → Prop} {E : Env} {H : Heap} {w : World}

/-! ## append -/
/-- Cells that are not frozen are written, one by one. -/
theorem storeCells_free (g o : Nat) (t : TypeId) (fz : Nat × Nat) : ∀ (vs : List Value) (i : Nat) (cur : Array Value) (w : World), w.heap[g]? = some (.cells cur t fz) → (∀ k, k < cur.size → ¬ (fz.1 ≤ k ∧ k < fz.2)) → o + i + vs.length ≤ cur.size → (∀ v ∈ vs, v.oneCell' = true) →
    (storeCells ⟨g, o, none⟩ vs i).run P w = .ok () (w.setRow g (cur.toList.take (o + i) ++ vs ++ cur.toList.drop (o + i + vs.length)).toArray) := by
  intro vs
  induction vs with
  | nil =>
    intro i cur w hg _ _ _
    simp only [storeCells, List.append_nil, List.length_nil, Nat.add_zero, List.take_append_drop, Array.toArray_toList]
    rw [setRow_self w g cur t fz hg]
    rfl
  | cons v rest ih =>
    intro i cur w hg hfree hl h1
    rw [List.length_cons] at hl
    have hi : o + i < cur.size := by omega
    have hnf : w.frozen? ⟨g, o + i, none⟩ = false := by
      have := hfree _ hi
      simp only [World.frozen?, hg, Bool.and_eq_false_iff, decide_eq_false_iff_not]
      omega
    have hcell : w.cell? ⟨g, o + i, none⟩ = some cur[o + i] := by simp [World.cell?, hg, hi]
    have hadd : (⟨g, o, none⟩ : Addr).add i = ⟨g, o + i, none⟩ := by unfold Addr.add; split <;> simp_all
    have hone : (store ((⟨g, o, none⟩ : Addr).add i) v).run P w = .ok () (w.setRow g (cur.setIfInBounds (o + i) v)) := by
      rw [hadd, run_store P w _ v _ (h1 v List.mem_cons_self), hcell]
      simp [hnf, setCell_eq_setRow w g (o + i) cur t fz v hg]
    have hrest := ih (i + 1) (cur.setIfInBounds (o + i) v) (w.setRow g (cur.setIfInBounds (o + i) v)) (setRow_heap w g cur _ t _ hg) (fun k hk => hfree k (by simpa using hk)) (by simp; omega) (fun x hx => h1 x (List.mem_cons_of_mem _ hx))
    simp only [storeCells, Sem.run_bind, hone, Result.andThen_ok, hrest, setRow_setRow]
    have e := list_seg_step cur.toList (o + i) v rest (by simp; omega)
    congr 3
    simpa [Array.toList_setIfInBounds, Nat.add_assoc] using e
theorem bytes_clean (l : List UInt8) : (l.map fun b => Value.int .u8 (b.toNat : Int)).all cleanS = true := by
  rw [List.all_eq_true]
  intro v hv
  obtain ⟨b, _, rfl⟩ := List.mem_map.1 hv
  rfl
theorem src_sound [Den] {n m size : Nat} {x x' : Value} {new : List Value} {c c' : Nat} {H' : Heap} {L : Lg} (h : srcCells n size x c H = .ok new c' H' L) (hr : HR P w0 F E H w) (hx : VR E x x') (hl : lenA x = some m) (hnm : n ≤ m) :
    c' = c ∧ H' = H ∧ new.length = n * size ∧ ∃ new', LR E new new' ∧ ∀ w', w'.heap = w.heap → (Builtin.firstCells size n x').run P w' = .ok new'.toArray w' := by
  unfold srcCells at h
  simp only [rdB_eq] at h
  split at h
  · rename_i i o m cp
    cases hx with
    | sl he hnc ha =>
      rename_i e a'
      obtain ⟨vs', k1, _, k3⟩ := rdN_sound h hr he
      obtain ⟨rfl, rfl, hlen⟩ := rdN_inv h
      simp only [lenA, Option.some.injEq] at hl
      refine ⟨rfl, rfl, hlen, vs', k1, fun w' hw' => ?_⟩
      have hlen' : vs'.length = n * size := by rw [← k1.1]; exact hlen
      simp only [Builtin.firstCells]
      rw [← hlen']
      rcases ha with ha | ha
      · subst ha; exact run_cells fun j v hj => by have := k3 j v hj; simp only [World.cell?, hw'] at *; exact this
      · have : vs'.length = 0 := by rw [hlen', show n = 0 by omega, Nat.zero_mul]
        have hv : vs' = [] := List.eq_nil_of_length_eq_zero this
        subst hv
        rfl
  · rename_i m cp
    cases hx
    obtain ⟨rfl, rfl, rfl, _⟩ := pure_ok.1 h
    simp only [lenA, Option.some.injEq] at hl
    have : n = 0 := by omega
    subst this
    exact ⟨rfl, rfl, by simp, [], LR.nil E, fun w' _ => rfl⟩
  · rename_i s
    cases hx
    cases hb : Nat.beq size 1 with
    | false => rw [hb] at h; simp only [cond_false] at h; exact (bad_ok.1 h).elim
    | true =>
      rw [hb] at h
      simp only [cond_true] at h
      have h1 := Nat.eq_of_beq_eq_true hb
      subst h1
      obtain ⟨rfl, rfl, rfl, _⟩ := pure_ok.1 h
      simp only [lenA, Option.some.injEq] at hl
      refine ⟨rfl, rfl, ?_, _, LR.cleanL (bytes_clean _), fun w' _ => ?_⟩
      · rw [List.length_map, Array.length_toList, Nat.mul_one]
        show (s.extract 0 n).size = n
        simp
        omega
      · simp only [Builtin.firstCells, Sem.run_pure]
        congr 1
        apply Array.toList_inj.1
        rw [Array.toList_map]
  · exact (bad_ok.1 h).elim

/-- A block that nobody holds any more is taken over by a new row. -/
theorem HR.adopt [Den] (hr : HR P w0 F E H w) {j : Nat} {T : TypeId} {cs : List Value} {cells : Array Value} {e : EI} {w' : World} (hj : H.get j = none)
    (hfree : ∀ i o x, H.get i = some o → live o = true → E i = some x → x.blk ≠ e.blk) (hown : w0.heap.size ≤ e.blk ∨ F e.blk)
    (hk : w'.os = w.os) (hk2 : w'.tape = w.tape) (hk3 : w'.output = w.output) (hs : w'.heap.size = w.heap.size) (hb : ∀ b, b ≠ e.blk → w'.heap[b]? = w.heap[b]?)
    (hc : RowAt w' e.blk T cells) (hrow : RowR P (E.upd j e) e T (mkCells cs) cells) :
    E.le (E.upd j e) ∧ HR P w0 F (E.upd j e) (H.set j (.row T (mkCells cs) false)) w' := by
  have hE : E j = none := by
    cases h : E j with
    | none => rfl
    | some e => exact absurd hj (hr.dom j e h)
  have hle : E.le (E.upd j e) := Env.le_upd hE
  have hs2 : ∀ k x, E.upd j e k = some x → (k = j ∧ x = e) ∨ (k ≠ j ∧ E k = some x) := fun k x hk => by
    unfold Env.upd at hk
    by_cases hkj : k = j
    · simp [hkj] at hk; exact .inl ⟨hkj, hk.symm⟩
    · simp [hkj] at hk; exact .inr ⟨hkj, hk⟩
  refine ⟨hle, ⟨⟨hk.trans hr.keeps.os, hk2.trans hr.keeps.tape, hk3.trans hr.keeps.output, by rw [hs]; exact hr.keeps.size, fun k hlt hF => ?_⟩, fun i x hi => ?_, fun i p hi => ?_, fun i m p q x y hne hi hm hlp hlq hw hx hy => ?_, fun i p x hi hw hx => ?_⟩⟩
  · have hne : k ≠ e.blk := fun hke => by
      rcases hown with h | h
      · omega
      · exact hF (hke ▸ h)
    rw [hb k hne]; exact hr.keeps.block k hlt hF
  · rcases hs2 i x hi with ⟨rfl, _⟩ | ⟨h1, h2⟩
    · rw [Tr.get_set_self]; simp
    · rw [Tr.get_set_ne _ _ h1]; exact hr.dom i x h2
  · by_cases hij : i = j
    · subst hij; rw [Tr.get_set_self] at hi; cases hi
      exact ⟨e, cells, by simp [Env.upd], hc, hrow⟩
    · rw [Tr.get_set_ne _ _ hij] at hi
      have hq := hr.obj i p hi
      have hq' := ObjR.mono hle hq
      cases p with
      | row T cs ro =>
        obtain ⟨x, cells, h1, h2, h3⟩ := hq
        obtain ⟨x', cells', k1, k2, k3⟩ := hq'
        have : E.upd j e i = some x := hle _ _ h1
        rw [this] at k1; cases k1
        exact ⟨x, cells', this, by unfold RowAt; rw [hb _ (hfree i _ x hi rfl h1)]; exact k2, k3⟩
      | map es bs clk =>
        obtain ⟨x, ents, clock, h1, h2, h3, h4⟩ := hq
        exact ⟨x, ents, clock, hle _ _ h1, by rw [hb _ (hfree i _ x hi rfl h1)]; exact h2, h3.mono hle, h4⟩
      | iter m since seen last =>
        obtain ⟨x, h1, h2, h3⟩ := hq
        have hq := hb _ (hfree i _ x hi rfl h1)
        refine ⟨x, hle _ _ h1, h2, ?_⟩
        rcases h3 with ⟨h3, h4⟩ | ⟨k, y, h3, h4, h5⟩
        · exact .inl ⟨h3, hq.trans h4⟩
        · exact .inr ⟨k, y, h3, hle _ _ h4, hq.trans h5⟩
      | loop st pe f ps a b d =>
        obtain ⟨x, l, h1, h2, h3, h4, h5, h6, h7, h8, ed, h9, h10⟩ := hq
        exact ⟨x, l, hle _ _ h1, by rw [hb _ (hfree i _ x hi rfl h1)]; exact h2, h3, h4, h5, h6, h7, h8.mono hle, ed, hle _ _ h9, h10⟩
      | defd =>
        obtain ⟨x, h1, h2⟩ := hq
        exact ⟨x, hle _ _ h1, by rw [hb _ (hfree i _ x hi rfl h1)]; exact h2⟩
      | orow T2 j2 ro2 =>
        obtain ⟨x, cells, h1, h2, h3⟩ := hq
        exact ⟨x, cells, hle _ _ h1, by rw [hb _ (hfree i _ x hi rfl h1)]; exact h2, h3⟩
      | dead => trivial
  · rcases hs2 i x hx with ⟨rfl, rfl⟩ | ⟨h1, h2⟩ <;> rcases hs2 m y hy with ⟨rfl, rfl⟩ | ⟨h3, h4⟩
    · exact absurd rfl hne
    · rw [Tr.get_set_ne _ _ h3] at hm
      exact Ne.symm (hfree m q y hm hlq h4)
    · rw [Tr.get_set_ne _ _ h1] at hi
      exact hfree i p x hi hlp h2
    · rw [Tr.get_set_ne _ _ h1] at hi
      rw [Tr.get_set_ne _ _ h3] at hm
      exact hr.inj i m p q x y hne hi hm hlp hlq hw h2 h4
  · rcases hs2 i x hx with ⟨rfl, rfl⟩ | ⟨h1, h2⟩
    · exact hown
    · rw [Tr.get_set_ne _ _ h1] at hi
      exact hr.own i p x hi hw h2
theorem HR.kill [Den] (hr : HR P w0 F E H w) {i : Nat} {o : AObj} {e : EI} (hi : H.get i = some o) (hl : live o = true) (hw : writable o = true) (he : E i = some e) : HR P w0 F E (H.set i .dead) w :=
  hr.turn hi hl hw he rfl rfl rfl rfl (fun _ _ => rfl) trivial

theorem info_inv {i c c' : Nat} {r : TypeId × Nat × Bool} {H' : Heap} {L : Lg} (h : info i c H = .ok r c' H' L) : c' = c ∧ H' = H ∧ ∃ T cs ro, H.get i = some (.row T cs ro) ∧ r = (T, cs.len, ro) := by
  unfold info at h
  split at h
  · rename_i T cs ro hi; cases h; exact ⟨rfl, rfl, T, cs, ro, hi, rfl⟩
  · cases h
theorem killA_inv {i c c' : Nat} {H' : Heap} {L : Lg} (h : killA i c H = .ok () c' H' L) : c' = c ∧ H' = H.set i .dead ∧ ∃ T cs, H.get i = some (.row T cs false) := by
  unfold killA at h
  split at h
  · rename_i T cs hi; cases h; exact ⟨rfl, rfl, T, cs, hi⟩
  · cases h

theorem growA_inv {i c j c' : Nat} {T : TypeId} {new : List Value} {H H' : Heap} {L : Lg} (h : growA i T new c H = .ok j c' H' L) :
    j = c ∧ c' = c + 1 ∧ L = .app (.one (.row i true)) (.one (.row c true)) ∧ ∃ cs, H.get i = some (.row T cs false) ∧ H.get c = none ∧ H' = (H.set i .dead).set c (.row T (cs.app new) false) := by
  unfold growA at h
  split at h
  · rename_i T' cs hi
    split at h
    · rename_i h2
      cases hb : Nat.beq T' T with
      | false => rw [hb] at h; cases h
      | true =>
        rw [hb] at h
        have := Nat.eq_of_beq_eq_true hb
        subst this
        cases h
        exact ⟨rfl, rfl, rfl, cs, hi, h2, rfl⟩
    · cases h
  · cases h
theorem isInt_false {t : TypeId} (h : isIntT P t = false) (h2 : (P.underlying t).isSome = true) (w : World) : (do pure ((← underlying t) matches .int _) : Sem Bool).run P w = .ok false w := by
  cases hu : P.underlying t with
  | none => rw [hu] at h2; simp at h2
  | some d =>
    unfold isIntT at h
    rw [hu] at h
    cases d <;> simp at h <;> simp [run_underlying hu]

theorem run_len [Den] {x x' : Value} {n : Nat} (h : lenA x = some n) (hx : VR E x x') (w : World) : (Builtin.lenOf x').run P w = .ok n w := by
  cases hx <;> simp only [lenA, Option.some.injEq, reduceCtorEq] at h <;> subst h <;> rfl

def nonInt : TypeDesc → Prop
  | .int _ => False
  | _ => True
theorem nonInt_of {t : TypeId} (h : isIntT P t = false) (h2 : (P.underlying t).isSome = true) : ∃ d, P.underlying t = some d ∧ nonInt d := by
  cases hu : P.underlying t with
  | none => rw [hu] at h2; simp at h2
  | some d =>
    unfold isIntT at h
    rw [hu] at h
    refine ⟨d, rfl, ?_⟩
    cases d <;> first | trivial | (simp at h; done)
theorem pure_false {α : Type} {b : Bool} (hb : b = false) (K : Bool → World → Result α) (w : World) :
    ((Pure.pure b : Sem Bool).run P w).andThen K = K false w := by rw [hb]; rfl
/-- append where there is room. -/
theorem run_append_fits {st xt ty e : TypeId} {size n sLen cap : Nat} {a : Addr} {x' : Value} {new' : List Value} {w1 : World} (hu : P.underlying st = some (.slice e)) (hsz : sizeB P e = some size)
    (g2 : isIntT P xt = false) (g3 : (P.underlying xt).isSome = true) (hlen : (Builtin.lenOf x').run P w = .ok n w) (hfit : sLen + n ≤ cap)
    (hnew : (Builtin.firstCells size n x').run P w = .ok new'.toArray w) (hst : (storeCells (a.add (sLen * size)) new').run P w = .ok () w1) :
    (Builtin.append_ #[st, xt] ty #[.slice (some a) sLen cap, x']).run P w = .ok (.slice (some a) (sLen + n) cap) w1 := by
  obtain ⟨d, hd, hni⟩ := nonInt_of g2 g3
  have hs1 := run_size hsz w
  unfold Builtin.append_
  simp only [List.getElem?_toArray, List.getElem?_cons_zero, List.getElem?_cons_succ]
  rw [Sem.run_bind, run_underlying hu, Result.andThen_ok]
  simp only []
  rw [Sem.run_bind, hs1, Result.andThen_ok, Sem.run_bind, run_underlying hd, Result.andThen_ok, Sem.run_bind,
    pure_false (by cases d <;> first | rfl | exact hni.elim)]
  simp only [Bool.false_eq_true, if_false, Sem.run_bind, hlen, Result.andThen_ok, Sem.run_ite, if_pos hfit, Bool.not_false, if_true, hnew, hst, Sem.run_pure]
theorem run_append_none {st xt ty e : TypeId} {size : Nat} {x' : Value} {new' : List Value} (hu : P.underlying st = some (.slice e)) (hsz : sizeB P e = some size)
    (g2 : isIntT P xt = false) (g3 : (P.underlying xt).isSome = true) (hlen : (Builtin.lenOf x').run P w = .ok 0 w)
    (hnew : (Builtin.firstCells size 0 x').run P w = .ok new'.toArray w) :
    (Builtin.append_ #[st, xt] ty #[.slice none 0 0, x']).run P w = .ok (.slice none 0 0) w := by
  obtain ⟨d, hd, hni⟩ := nonInt_of g2 g3
  have hs1 := run_size hsz w
  unfold Builtin.append_
  simp only [List.getElem?_toArray, List.getElem?_cons_zero, List.getElem?_cons_succ]
  rw [Sem.run_bind, run_underlying hu, Result.andThen_ok]
  simp only []
  rw [Sem.run_bind, hs1, Result.andThen_ok, Sem.run_bind, run_underlying hd, Result.andThen_ok, Sem.run_bind,
    pure_false (by cases d <;> first | rfl | exact hni.elim)]
  simp only [Bool.false_eq_true, if_false, Sem.run_bind, hlen, Result.andThen_ok, Sem.run_ite, Nat.zero_add, Nat.le_refl, Bool.not_false, if_true, hnew, Sem.run_pure]
/-- append where there is none. -/
theorem run_append_grows {st xt ty e : TypeId} {size bytes n sLen cap : Nat} {base' : Option Addr} {x' z : Value} {new' old' : List Value} (hu : P.underlying st = some (.slice e)) (hsz : sizeB P e = some size)
    (hby : bytesB P e = some bytes) (hz : zeroB P e = some z) (hzs : z.cells.size = size)
    (g2 : isIntT P xt = false) (g3 : (P.underlying xt).isSome = true) (hlen : (Builtin.lenOf x').run P w = .ok n w) (hfit : cap < sLen + n) (hb1 : (sLen + n) * bytes ≤ 140737488355328) (hb2 : sLen + n ≤ 9223372036854775807)
    (hnew : ∀ w', w'.heap = w.heap → (Builtin.firstCells size n x').run P w' = .ok new'.toArray w') (hold : ∀ w', w'.heap = w.heap → (Builtin.firstCells size sLen (.slice base' sLen cap)).run P w' = .ok old'.toArray w') :
    ∃ (newCap : Nat) (rest : List Value) (d : Nat), sLen + n ≤ newCap ∧ rest.length = (newCap - (sLen + n)) * size ∧
      (Builtin.append_ #[st, xt] ty #[.slice base' sLen cap, x']).run P w = .ok (.slice (some ⟨w.heap.size, 0, none⟩) (sLen + n) newCap) { w with heap := w.heap.push (.cells (old' ++ new' ++ rest).toArray e (0, 0)), drawn := d } := by
  obtain ⟨d, hd, hni⟩ := nonInt_of g2 g3
  have hs1 := run_size hsz w
  obtain ⟨ib, hib, hibb⟩ := bytes_info hby
  have hbound := growslice_fits hfit hb1
  have hnot : ¬ (sLen + n ≤ cap) := by omega
  have hmax : ¬ (((sLen + n : Nat) : Int) > IntKind.i64.max) := by
    have : IntKind.i64.max = 9223372036854775807 := by decide
    rw [this]; omega
  have hnot2 : ¬ (Builtin.nextslicecap (sLen + n) cap * bytes > 2 ^ 48) := by
    have : (2 : Nat) ^ 48 = 281474976710656 := by decide
    rw [this]; omega
  generalize hq : (Question.appendCap (sLen + n) cap e).cut (w.tape w.drawn (.appendCap (sLen + n) cap e)) = q
  have hq2 : sLen + n ≤ q := by rw [← hq]; simp only [Question.cut]; omega
  have hw1 : ∀ (w' : World), (typeInfo e).run P w' = .ok ib w' := fun w' => run_info hib w'
  have hz1 : ∀ (w' : World), (zeroValue e).run P w' = .ok z w' := fun w' => run_zero hz w'
  have hn1 := hnew { w with drawn := w.drawn + 1 } rfl
  have ho1 := hold { w with drawn := w.drawn + 1 } rfl
  have hch : (choose (.appendCap (sLen + n) cap e)).run P w = .ok q { w with drawn := w.drawn + 1 } := by
    rw [run_choose, ← hq]; rfl
  refine ⟨q, (Builtin.zeroCells z.cells (q - (sLen + n))).toList, w.drawn + 1, hq2, ?_, ?_⟩
  · simp [Builtin.zeroCells, hzs]
  · have happ : (old' ++ new' ++ (Builtin.zeroCells z.cells (q - (sLen + n))).toList).toArray = old'.toArray ++ new'.toArray ++ Builtin.zeroCells z.cells (q - (sLen + n)) := by
      apply Array.toList_inj.1; simp
    rw [happ]
    unfold Builtin.append_
    simp only [List.getElem?_toArray, List.getElem?_cons_zero, List.getElem?_cons_succ]
    rw [Sem.run_bind, run_underlying hu, Result.andThen_ok]
    simp only []
    rw [Sem.run_bind, hs1, Result.andThen_ok, Sem.run_bind, run_underlying hd, Result.andThen_ok, Sem.run_bind,
      pure_false (by cases d <;> first | rfl | exact hni.elim)]
    simp only [Bool.false_eq_true, if_false, Sem.run_bind, hlen, Result.andThen_ok, Sem.run_ite, if_neg hnot, Bool.not_false, if_true, hw1, hibb, hmax, false_and, if_neg hnot2, hch, run_askRoom, ho1, hn1, hz1, Sem.run_pure, run_newRow]

theorem LR.len [Den] {E : Env} {xs ys : List Value} (h : LR E xs ys) : xs.length = ys.length := h.1
theorem all_append {p : Value → Bool} {xs ys : List Value} (h1 : xs.all p = true) (h2 : ys.all p = true) : (xs ++ ys).all p = true := by rw [List.all_append, h1, h2]; rfl
theorem capINF (e : EI) : capOf e INF = e.cap := by unfold capOf; rw [if_neg (by unfold INF HALF; omega)]; omega

theorem append_sound [Den] {ats : Array TypeId} {ty : TypeId} {args args' : List Value} {v : Value} {c c' : Nat} {H' : Heap} {L : Lg} (h : appendA P ats.toList args c H = .ok v c' H' L) (hr : HR P w0 F E H w) (ha : LR E args args') :
    ∃ v' w' E', (Builtin.append_ ats ty args'.toArray).run P w = .ok v' w' ∧ E.le E' ∧ HR P w0 F E' H' w' ∧ VR E' v v' := by
  generalize hal : ats.toList = al at h
  unfold appendA at h
  simp only [rdB_eq, wrB_eq] at h
  split at h
  · rename_i st xt base sLen sCap x
    obtain ⟨s', r1, rfl, hs, ha⟩ := ha.cons_inv
    obtain ⟨x', r2, rfl, hx, ha⟩ := ha.cons_inv
    have := ha.nil_inv
    subst this
    have hats' : ats = #[st, xt] := Array.toList_inj.1 (by simpa using hal)
    subst hats'
    clear hal ha
    replace h := bopt h
    obtain ⟨e, _, he, h⟩ := h
    replace h := bopt h
    obtain ⟨size, _, hsz, h⟩ := h
    replace h := bopt h
    obtain ⟨bytes, _, hby, h⟩ := h
    replace h := bopt h
    obtain ⟨z, _, hz, h⟩ := h
    replace h := bguard h
    obtain ⟨_, hg, h⟩ := h
    replace h := bopt h
    obtain ⟨n, _, hn, h⟩ := h
    simp only [Bool.and_eq_true, Bool.not_eq_true'] at hg
    obtain ⟨⟨⟨g1, g2⟩, g3⟩, g4⟩ := hg
    have g1 := blt_iff.1 g1
    have g4 := Nat.eq_of_beq_eq_true g4
    have hu := elem_under he
    have hlen := run_len (P := P) hn hx w
    cases hn0 : Nat.beq n 0 with
    | true =>
      have hn0 := Nat.eq_of_beq_eq_true hn0
      subst hn0
      simp only [Nat.beq_refl, cond_true] at h
      obtain ⟨hv, hc, hh, _⟩ := pure_ok.1 h
      subst hv hc hh
      have hnew : (Builtin.firstCells size 0 x').run P w = .ok ([] : List Value).toArray w := by
        cases hx <;> simp only [lenA, Option.some.injEq, reduceCtorEq] at hn
        · simp [Builtin.firstCells]
        · simp [Builtin.firstCells]
        · simp only [Builtin.firstCells, Nat.zero_mul]; rfl
      cases hs with
      | nilS =>
        exact ⟨_, w, E, run_append_none hu hsz g2 g3 hlen hnew, E.le_refl, hr, .nilS⟩
      | sl h1 h2 h3 =>
        exact ⟨_, w, E, run_append_fits hu hsz g2 g3 hlen (by omega) hnew rfl, E.le_refl, hr, .sl h1 h2 h3⟩
    | false =>
      rw [hn0] at h
      simp only [cond_false] at h
      have hnpos : 0 < n := by
        rcases Nat.eq_zero_or_pos n with h0 | h0
        · subst h0; simp at hn0
        · exact h0
      replace h := bguard h
      obtain ⟨_, hgb, h⟩ := h
      simp only [Bool.and_eq_true] at hgb
      have hb1 := Nat.le_of_ble_eq_true hgb.1
      have hb2 := blt_iff.1 hgb.2
      have hb1' : (sLen + n) * bytes ≤ 140737488355328 := by omega
      have hb2' : sLen + n ≤ 9223372036854775807 := by unfold HALF at hb2; omega
      replace h := bind_ok.1 h
      obtain ⟨new, c1, h1, l1, l2, hnew0, h, _⟩ := h
      obtain ⟨hc1, hh1, hnl, new', hnr, hnew⟩ := src_sound hnew0 hr hx hn (Nat.le_refl _)
      subst hc1 hh1
      replace h := bguard h
      obtain ⟨_, hno, h⟩ := h
      -- a new row, of old cells and new ones
      have fresh : ∀ {old old' : List Value} {c2 : Nat} {H2 : Heap} {L2 : Lg} {base' : Option Addr} {cap' : Nat}, LR E old old' → old.all oneB = true → old.length = sLen * size → cap' < sLen + n →
          (∀ w', w'.heap = w.heap → (Builtin.firstCells size sLen (.slice base' sLen cap')).run P w' = .ok old'.toArray w') →
          ∀ {h1 : Heap} {j : Nat}, HR P w0 F E h1 w → M.bind (newA (.row e (mkCells (old ++ new)) false)) (fun j => M.pure (.slice (some ⟨j, 0, none⟩) (sLen + n) INF)) j h1 = .ok v c2 H2 L2 →
          ∃ v' w' E', (Builtin.append_ #[st, xt] ty [.slice base' sLen cap', x'].toArray).run P w = .ok v' w' ∧ E.le E' ∧ HR P w0 F E' H2 w' ∧ VR E' v v' := by
        intro old old' c2 H2 L2 base' cap' ho hone hol hcap hold h1 j hr1 h
        replace h := bind_ok.1 h
        obtain ⟨j2, c3, h3, l3, l4, hj0, h, _⟩ := h
        obtain ⟨hv, hc, hh, _⟩ := pure_ok.1 h
        obtain ⟨hj1, hj2, hj, hj3, _⟩ := newA_inv hj0
        subst hj1 hj2 hj3
        subst hv hc hh
        obtain ⟨newCap, rest, d, k1, k2, k3⟩ := run_append_grows (ty := ty) hu hsz hby hz g4 g2 g3 hlen hcap hb1' hb2' hnew hold
        have hlr := LR.append ho hnr
        have hcapn : ∀ m, sizeB P e = some m → newCap * m ≤ (old' ++ new' ++ rest).length ∧ (old ++ new).length / m ≤ newCap := fun m hm => by
          rw [hsz] at hm; cases hm
          refine ⟨?_, by
            rw [List.length_append, hol, hnl, ← Nat.add_mul]
            exact Nat.le_trans (Nat.div_le_of_le_mul (by rw [Nat.mul_comm]; exact Nat.le_refl _)) k1⟩
          have e1 := ho.len
          have e2 := hnr.len
          simp only [List.length_append, k2]
          rw [← e1, ← e2, hol, hnl, ← Nat.add_mul, ← Nat.add_mul]
          have : sLen + n + (newCap - (sLen + n)) = newCap := by omega
          rw [this]; exact Nat.le_refl _
        obtain ⟨q1, q2⟩ := hr1.newRow (T := e) (more := rest) (cap := newCap) hj hlr (all_append hone hno) hcapn
        refine ⟨_, _, _, k3, q1, q2.heap (w' := { w with heap := w.heap.push (.cells (old' ++ new' ++ rest).toArray e (0, 0)), drawn := d }) rfl rfl rfl rfl, ?_⟩
        have hE : Env.upd E j2 ⟨w.heap.size, 0, newCap⟩ j2 = some ⟨w.heap.size, 0, newCap⟩ := by simp [Env.upd]
        have hp := VR.sl (o := 0) (n := sLen + n) (c := INF) (a' := ⟨w.heap.size, 0, none⟩) hE (by rw [capINF]; exact k1) (.inl rfl)
        rw [capINF] at hp
        exact hp
      split at h
      · -- nil
        cases hs with
        | nilS =>
          have h' : M.bind (newA (.row e (mkCells ([] ++ new)) false)) (fun j => M.pure (.slice (some ⟨j, 0, none⟩) (0 + n) INF)) _ _ = .ok v c' H' _ := h
          exact fresh (base' := none) (cap' := 0) (LR.nil E) rfl (by simp) (by omega) (fun w' _ => rfl) hr h'
      · rename_i i o
        cases hs with
        | sl hE hnc haa =>
          rename_i ei a'
          cases hk : knownCap sCap with
          | true =>
            rw [hk] at h
            simp only [cond_true] at h
            have hk1 := blt_iff.1 hk
            have hcap : capOf ei sCap = sCap := by unfold capOf; rw [if_pos hk1]
            cases hfit : Nat.ble (sLen + n) sCap with
            | true =>
              rw [hfit] at h
              simp only [cond_true] at h
              have hfit := Nat.le_of_ble_eq_true hfit
              replace h := bind_ok.1 h
              obtain ⟨_, c2, h2, _, _, hw, h, _⟩ := h
              obtain ⟨hv, hc, hh, _⟩ := pure_ok.1 h
              have ha' : a' = ⟨ei.blk, ei.off + o, none⟩ := by
                rcases haa with haa | haa
                · exact haa
                · omega
              obtain ⟨hcc, w', k1, k2, _⟩ := wrN_sound (k := 0) (o := o + sLen * size) hw hr hnr hE
              subst hv hc hh hcc ha'
              refine ⟨_, w', E, run_append_fits (ty := ty) hu hsz g2 g3 hlen (by rw [hcap]; exact hfit) (hnew w rfl) ?_, E.le_refl, k2, ?_⟩
              · rw [add_eq, Nat.add_assoc]; exact k1
              · exact .sl hE (by rw [hcap]; exact hfit) (.inl rfl)
            | false =>
              rw [hfit] at h
              simp only [cond_false] at h
              have hfit : sCap < sLen + n := by
                rcases Nat.lt_or_ge sCap (sLen + n) with h0 | h0
                · exact h0
                · rw [Nat.ble_eq_true_of_le h0] at hfit; cases hfit
              replace h := bind_ok.1 h
              obtain ⟨old, c2, h2, _, _, ho, h, _⟩ := h
              replace h := bguard h
              obtain ⟨_, hone, h⟩ := h
              obtain ⟨old', k1, _, k3⟩ := rdN_sound ho hr hE
              obtain ⟨hc2, hh2, hol⟩ := rdN_inv ho
              subst hc2 hh2
              refine fresh (base' := some a') (cap' := capOf ei sCap) k1 hone hol (by rw [hcap]; exact hfit) (fun w' hw' => ?_) hr h
              have hlen' : old'.length = sLen * size := by rw [← k1.1]; exact hol
              simp only [Builtin.firstCells]
              rw [← hlen']
              rcases haa with haa | haa
              · subst haa; exact run_cells fun j v hj => by have := k3 j v hj; simp only [World.cell?, hw'] at *; exact this
              · have : old'.length = 0 := by rw [hlen', show sLen = 0 by omega, Nat.zero_mul]
                have hv : old' = [] := List.eq_nil_of_length_eq_zero this
                subst hv
                rfl
          | false =>
            rw [hk] at h
            simp only [cond_false] at h
            replace h := bind_ok.1 h
            obtain ⟨⟨T, len, ro⟩, c2, h2, _, _, hi, h, _⟩ := h
            obtain ⟨hc2, hh2, T', cs, ro', hget, hinfo⟩ := info_inv hi
            simp only [Prod.mk.injEq] at hinfo
            obtain ⟨hT, hL, hro⟩ := hinfo
            subst hc2 hh2 hT hL hro
            simp only at h
            cases hin : (Nat.beq T e && Nat.beq o ((INF - sCap) * size) && Nat.ble (o + (sLen + n) * size) cs.len && Nat.ble sCap INF) with
            | true =>
              rw [hin] at h
              simp only [cond_true] at h
              simp only [Bool.and_eq_true] at hin
              obtain ⟨⟨⟨q1, q3⟩, q4⟩, q5⟩ := hin
              have q1 := Nat.eq_of_beq_eq_true q1
              have q3 := Nat.eq_of_beq_eq_true q3
              have q4 := Nat.le_of_ble_eq_true q4
              have q5 := Nat.le_of_ble_eq_true q5
              subst q1
              obtain ⟨e2, cells, m1, _, m3, _⟩ := hr.obj i _ hget
              rw [hE] at m1; cases m1
              have hlow := (m3 size hsz).2
              have hkn : ¬ sCap < HALF := fun h0 => by rw [knownCap, blt_iff.2 h0] at hk; cases hk
              have hc1 : capOf ei sCap = ei.cap - (INF - sCap) := by unfold capOf; rw [if_neg hkn]
              have hfit : sLen + n ≤ capOf ei sCap := by
                have h0 : ((INF - sCap) + (sLen + n)) * size ≤ cs.len := by rw [Nat.add_mul, ← q3]; exact q4
                have h1 : (INF - sCap) + (sLen + n) ≤ cs.len / size := (Nat.le_div_iff_mul_le g1).2 h0
                omega
              replace h := bind_ok.1 h
              obtain ⟨_, c2, h2, _, _, hw, h, _⟩ := h
              obtain ⟨hv, hc, hh, _⟩ := pure_ok.1 h
              have ha' : a' = ⟨ei.blk, ei.off + o, none⟩ := by
                rcases haa with haa | haa
                · exact haa
                · omega
              obtain ⟨hcc, w', k1, k2, _⟩ := wrN_sound (k := 0) (o := o + sLen * size) hw hr hnr hE
              subst hv hc hh hcc ha'
              refine ⟨_, w', E, run_append_fits (ty := ty) hu hsz g2 g3 hlen hfit (hnew w rfl) ?_, E.le_refl, k2, ?_⟩
              · rw [add_eq, Nat.add_assoc]; exact k1
              · exact .sl hE hfit (.inl rfl)
            | false =>
            rw [hin] at h
            simp only [cond_false] at h
            replace h := bguard h
            obtain ⟨_, hgg, h⟩ := h
            simp only [Bool.and_eq_true, Bool.not_eq_true'] at hgg
            obtain ⟨⟨⟨⟨q1, q2⟩, q3⟩, q4⟩, q5⟩ := hgg
            have q1 := Nat.eq_of_beq_eq_true q1
            have q3 := Nat.eq_of_beq_eq_true q3
            have q4 := Nat.eq_of_beq_eq_true q4
            have q5 := Nat.le_of_ble_eq_true q5
            subst q1 q2
            have slow : ∀ {c2 : Nat} {H2 : Heap} {L2 : Lg} {c9 : Nat} {H9 : Heap}, HR P w0 F E H9 w → H9.get i = some (.row T cs false) → M.bind (rdN i o (sLen * size)) (fun old => M.bind (guardM 326 (old.all oneB)) fun _ => M.bind (killA i) fun _ => M.bind (newA (.row T (mkCells (old ++ new)) false)) fun j => M.pure (.slice (some ⟨j, 0, none⟩) (sLen + n) INF)) c9 H9 = .ok v c2 H2 L2 →
                ∃ v' w' E', (Builtin.append_ #[st, xt] ty [.slice (some a') sLen (capOf ei sCap), x'].toArray).run P w = .ok v' w' ∧ E.le E' ∧ HR P w0 F E' H2 w' ∧ VR E' v v' := by
              intro c' H' L c9 H9 hr hget h
              replace h := bind_ok.1 h
              obtain ⟨old, c3, h3, _, _, ho, h, _⟩ := h
              replace h := bguard h
              obtain ⟨_, hone, h⟩ := h
              obtain ⟨old', k1, _, k3⟩ := rdN_sound ho hr hE
              obtain ⟨hc3, hh3, hol⟩ := rdN_inv ho
              subst hc3 hh3
              replace h := bind_ok.1 h
              obtain ⟨_, c4, h4, _, _, hkl, h, _⟩ := h
              obtain ⟨hc4, hh4, T2, cs2, hget2⟩ := killA_inv hkl
              subst hc4 hh4
              have hr2 := hr.kill hget rfl rfl hE
              have hlen' : old'.length = sLen * size := by rw [← k1.1]; exact hol
              rcases Nat.lt_or_ge (capOf ei sCap) (sLen + n) with hfit | hfit
              · -- a new block
                refine fresh (base' := some a') (cap' := capOf ei sCap) k1 hone hol hfit (fun w' hw' => ?_) hr2 h
                simp only [Builtin.firstCells]
                rw [← hlen']
                rcases haa with haa | haa
                · subst haa; exact run_cells fun j v hj => by have := k3 j v hj; simp only [World.cell?, hw'] at *; exact this
                · have : old'.length = 0 := by rw [hlen', show sLen = 0 by omega, Nat.zero_mul]
                  have hv : old' = [] := List.eq_nil_of_length_eq_zero this
                  subst hv
                  rfl
              · -- in place
                have ha' : a' = ⟨ei.blk, ei.off + o, none⟩ := by
                  rcases haa with haa | haa
                  · exact haa
                  · omega
                subst ha'
                replace h := bind_ok.1 h
                obtain ⟨j, c5, h5, _, _, hj0, h, _⟩ := h
                obtain ⟨hv, hc, hh, _⟩ := pure_ok.1 h
                obtain ⟨hj1, hj2, hj, hj3, _⟩ := newA_inv hj0
                subst hj1 hj2 hj3
                subst hv hc hh
                obtain ⟨e2, cells, m1, m2, m3, m4⟩ := hr.obj i _ hget
                rw [hE] at m1; cases m1
                obtain ⟨fz, m2, m2f⟩ := m2
                have hsize := (m3 size hsz).1
                have hkn : ¬ sCap < HALF := fun h0 => by rw [knownCap, blt_iff.2 h0] at hk; cases hk
                have hc1 : capOf ei sCap = ei.cap - (INF - sCap) := by unfold capOf; rw [if_neg hkn]
                have hnl' : new'.length = n * size := by rw [← hnr.len]; exact hnl
                -- there is room in the block
                have hroom : ei.off + (o + sLen * size) + n * size ≤ cells.size := by
                  have h0 : (INF - sCap) + (sLen + n) ≤ ei.cap := by omega
                  have h1 := Nat.mul_le_mul_right size h0
                  rw [Nat.add_mul, Nat.add_mul, ← q3] at h1
                  omega
                have hst := storeCells_free (P := P) ei.blk (ei.off + (o + sLen * size)) T fz new' 0 cells w m2 (free_of m2f) (by rw [hnl']; exact hroom) (fun u hu => by
                  rw [← oneB_iff]
                  obtain ⟨k, hk⟩ := List.mem_iff_getElem?.1 hu
                  have hkl : k < new.length := by rw [hnr.len]; exact (List.getElem?_eq_some_iff.1 hk).1
                  have := hnr.2 k new[k] u (by simp [hkl]) hk
                  rw [this.oneB]
                  exact List.all_eq_true.1 hno _ (List.getElem_mem hkl))
                simp only [Nat.add_zero] at hst
                generalize hcl : (cells.toList.take (ei.off + (o + sLen * size)) ++ new' ++ cells.toList.drop (ei.off + (o + sLen * size) + new'.length)).toArray = cells2 at hst
                have hsz2 : cells2.size = cells.size := by
                  rw [← hcl]; simp [hnl']; omega
                have hE2 : Env.upd E j ⟨ei.blk, ei.off + o, capOf ei sCap⟩ j = some ⟨ei.blk, ei.off + o, capOf ei sCap⟩ := by simp [Env.upd]
                have hle2 : E.le (Env.upd E j ⟨ei.blk, ei.off + o, capOf ei sCap⟩) := Env.le_upd (by
                  cases h0 : E j with
                  | none => rfl
                  | some x => exact absurd hj (hr2.dom j x h0))
                have hlr := LR.append k1 hnr
                have hadopt := hr2.adopt (j := j) (T := T) (cs := old ++ new) (cells := cells2) (e := ⟨ei.blk, ei.off + o, capOf ei sCap⟩) (w' := w.setRow ei.blk cells2) hj
                  (fun k p x hkp hlp hx => by
                    by_cases hki : k = i
                    · subst hki; rw [Tr.get_set_self] at hkp; cases hkp; simp [live] at hlp
                    · rw [Tr.get_set_ne _ _ hki] at hkp
                      exact hr.inj k i _ _ x ei hki hkp hget hlp rfl (.inr rfl) hx hE)
                  (hr.own i _ ei hget rfl hE) rfl rfl rfl (setRow_size _ _ _) (fun b hb => setRow_other _ _ _ _ hb) ⟨fz, setRow_heap _ _ _ _ _ _ m2, by rw [hsz2]; exact m2f⟩ ⟨fun m hm => by
                    rw [hsz] at hm; cases hm
                    rw [hsz2]
                    refine ⟨?_, by
                      rw [mkCells_len, List.length_append, hol, hnl, ← Nat.add_mul]
                      exact Nat.le_trans (Nat.div_le_of_le_mul (by rw [Nat.mul_comm]; exact Nat.le_refl _)) hfit⟩
                    show ei.off + o + capOf ei sCap * size ≤ cells.size
                    have h0 : (INF - sCap) + capOf ei sCap ≤ ei.cap ∨ ei.cap < INF - sCap := by omega
                    rcases h0 with h0 | h0
                    · have h1 := Nat.mul_le_mul_right size h0
                      rw [Nat.add_mul, ← q3] at h1
                      omega
                    · omega, fun k u hk => by
                    rw [mkCells_get] at hk
                    obtain ⟨y, hy, hvy⟩ := hlr.get hk
                    refine ⟨y, ?_, hvy.mono hle2, ?_⟩
                    · show cells2[ei.off + o + k]? = some y
                      rw [← hcl]
                      rw [List.getElem?_toArray, List.append_assoc]
                      by_cases hko : k < old'.length
                      · rw [List.getElem?_append_left (by rw [List.length_take]; simp; omega)]
                        rw [List.getElem?_take, if_pos (by omega)]
                        rw [List.getElem?_append_left hko] at hy
                        have := k3 k y hy
                        simp only [World.cell?, m2] at this
                        simpa using this
                      · have htl : (cells.toList.take (ei.off + (o + sLen * size))).length = ei.off + (o + sLen * size) := by simp; omega
                        rw [List.getElem?_append_right (by rw [htl]; omega), htl]
                        rw [List.getElem?_append_right (by omega)] at hy
                        have hkn : k - old'.length < new'.length := (List.getElem?_eq_some_iff.1 hy).1
                        rw [List.getElem?_append_left (by omega), ← hy]
                        congr 1; omega
                    · rw [hvy.oneB]; exact List.all_eq_true.1 (all_append hone hno) u (List.mem_of_getElem? hk)⟩
                refine ⟨_, _, _, run_append_fits (ty := ty) hu hsz g2 g3 hlen hfit (hnew w rfl) (by rw [add_eq, Nat.add_assoc]; exact hst), hadopt.1, hadopt.2, ?_⟩
                have hp := VR.sl (o := 0) (n := sLen + n) (c := INF) (a' := ⟨ei.blk, ei.off + o, none⟩) hE2 (by rw [capINF]; exact hfit) (.inl rfl)
                rw [capINF] at hp
                exact hp
            cases hbo : Nat.beq o 0 with
            | false => rw [hbo] at h; simp only [cond_false] at h; exact slow hr hget h
            | true =>
              rw [hbo] at h
              simp only [cond_true] at h
              have ho0 := Nat.eq_of_beq_eq_true hbo
              replace h := bind_ok.1 h
              obtain ⟨j, c3, h3, _, _, hgr, h, _⟩ := h
              obtain ⟨hv, hc, hh, _⟩ := pure_ok.1 h
              subst hv hc hh
              obtain ⟨j1, j2, _, cs3, hg3, hx2, j3⟩ := growA_inv hgr
              rw [hget] at hg3
              cases hg3
              subst j1 j2 j3
              obtain ⟨e2, cells, m1, m2, m3, m4⟩ := hr.obj i _ hget
              obtain ⟨old, o1, o2⟩ := full_list cs
              obtain ⟨_, a2⟩ := app_spec cs new
              subst ho0
              have hol : old.length = sLen * size := by omega
              have hrd := rdN_run (c := j) hget (o := 0) (vs := old) hol (fun k _ => by rw [Nat.zero_add]; exact o2 k)
              have hone : old.all oneB = true := List.all_eq_true.2 fun u hu => by
                obtain ⟨k, hk⟩ := List.mem_iff_getElem?.1 hu
                obtain ⟨y, _, y2, y3⟩ := m4 k u (by rw [o2 k]; exact hk)
                rw [← y2.oneB]; exact y3
              have hne : j ≠ i := fun e => by rw [e, hget] at hx2; cases hx2
              have hkill : killA i j h2 = .ok () j (h2.set i .dead) (.one (.row i true)) := by simp [killA, hget]
              have hnewA : newA (.row T (mkCells (old ++ new)) false) j (h2.set i .dead) = .ok j (j + 1) ((h2.set i .dead).set j (.row T (mkCells (old ++ new)) false)) (.one (.row j true)) := by
                simp [newA, Tr.get_set_ne _ _ hne, hx2]
              obtain ⟨_, hrun⟩ : ∃ L, M.bind (rdN i 0 (sLen * size)) (fun old => M.bind (guardM 326 (old.all oneB)) fun _ => M.bind (killA i) fun _ => M.bind (newA (.row T (mkCells (old ++ new)) false)) fun j => M.pure (Value.slice (some ⟨j, 0, none⟩) (sLen + n) INF)) j h2 =
                  .ok (Value.slice (some ⟨j, 0, none⟩) (sLen + n) INF) (j + 1) ((h2.set i .dead).set j (.row T (mkCells (old ++ new)) false)) L :=
                ⟨_, bind_ok.2 ⟨old, j, h2, _, _, hrd, bind_ok.2 ⟨(), j, h2, _, _, guard_ok.2 ⟨hone, rfl, rfl, rfl⟩, bind_ok.2 ⟨(), j, h2.set i .dead, _, _, hkill, bind_ok.2 ⟨j, j + 1, _, _, _, hnewA, pure_ok.2 ⟨rfl, rfl, rfl, rfl⟩, rfl⟩, rfl⟩, rfl⟩, rfl⟩⟩
              obtain ⟨v', w', E', r1, r2, r3, r4⟩ := slow hr hget hrun
              refine ⟨v', w', E', r1, r2, r3.recell (fun k => ?_) (by rw [(app_spec cs new).1, mkCells_len, List.length_append, hol]; omega), r4⟩
              rw [a2 k, mkCells_get]
              by_cases hk : k < cs.len
              · rw [if_pos hk, o2 k, List.getElem?_append_left (by omega)]
              · rw [if_neg hk, List.getElem?_append_right (by omega)]
                congr 1; omega
      · exact (bad_ok.1 h).elim
  · exact (bad_ok.1 h).elim
theorem sliceX_sound [Den] {t : TypeId} {x x' v : Value} {lo hi mx lo' hi' mx' : Option Value} {c c' : Nat} {H' : Heap} {L : Lg} (h : sliceX P t x lo hi mx c H = .ok v c' H' L) (hr : HR P w0 F E H w) (hx : VR E x x') (ol : OR E lo lo') (oh : OR E hi hi') (om : OR E mx mx') :
    c' = c ∧ H' = H ∧ ∃ v', (Instr.sliceAt t x' lo' hi' mx').run P w = .ok v' w ∧ VR E v v' := by
  unfold sliceX at h
  split at h
  · rename_i i o len cap
    replace h := bopt h
    obtain ⟨e, _, he, h⟩ := h
    replace h := bopt h
    obtain ⟨n, _, hn, h⟩ := h
    replace h := bind_ok.1 h
    obtain ⟨⟨T, Ln, ro⟩, c1, h1, _, _, hin, h, _⟩ := h
    obtain ⟨q1, q2, T', cs, ro', hi0, hinfo⟩ := info_inv hin
    simp only [Prod.mk.injEq] at hinfo
    obtain ⟨hT, hL, hro⟩ := hinfo
    subst q1 q2 hT hL hro
    simp only at h
    replace h := bopt h
    obtain ⟨hh, _, hb1, h⟩ := h
    replace h := bopt h
    obtain ⟨l, _, hb2, h⟩ := h
    replace h := bguard h
    obtain ⟨_, hg, h⟩ := h
    obtain ⟨q1, q2, q3, _⟩ := pure_ok.1 h
    subst q1 q2 q3
    simp only [Bool.and_eq_true, Bool.not_eq_true'] at hg
    obtain ⟨⟨⟨⟨⟨g1, g2⟩, g3⟩, g4⟩, g5⟩, g6⟩ := hg
    have g1 := Nat.eq_of_beq_eq_true g1
    have g3 := Nat.le_of_ble_eq_true g3
    have g4 := Nat.le_of_ble_eq_true g4
    subst g1
    cases mx with
    | some m => simp at g5
    | none =>
    refine ⟨rfl, rfl, ?_⟩
    cases hx with
    | sl hE hnc ha =>
      rename_i ei a'
      obtain ⟨e2, cells, m1, _, m3, _⟩ := hr.obj _ _ hi0
      rw [hE] at m1; cases m1
      have hlow := (m3 n hn).2
      have hkn : ¬ cap < HALF := fun h0 => by rw [knownCap, blt_iff.2 h0] at g2; cases g2
      have hc1 : capOf ei cap = ei.cap - (INF - cap) := by unfold capOf; rw [if_neg hkn]
      have hcut : cs.len / n - (INF - cap) ≤ capOf ei cap := by omega
      have hu := elem_under he
      have hbr := bounds_run (P := P) (w := w) (isS := true) (len := len) (cap := capOf ei cap) (m := cs.len / n - (INF - cap)) (mx := none) (by simp [boundA]) hb1 hb2 (by simp) hcut ol oh om
      have hlh : l ≤ hh := bound_le hb2 (Nat.zero_le _)
      have hhm : hh ≤ capOf ei cap := by
        cases hi with
        | none => simp at g6
        | some hv =>
          have : hh ≤ cs.len / n - (INF - cap) := by
            cases oh with
            | some hvr => exact (bound_run (P := P) (w := w) (code := .sliceAcap) hb1 hvr hcut).2
          omega
      have hc2 : capOf ei (cap - l) = capOf ei cap - l := by
        rw [hc1]; unfold capOf; rw [if_neg (by omega)]; omega
      simp only [Option.isSome_none, Bool.false_eq_true, if_false] at hbr
      refine ⟨.slice (some (if capOf ei cap = l then a' else Addr.add a' (l * n))) (hh - l) (capOf ei cap - l), ?_, ?_⟩
      · simp only [Instr.sliceAt, Sem.run_bind, run_underlying hu, Result.andThen_ok, Instr.slice, hbr, run_size hn, Sem.run_pure]
        by_cases hml2 : capOf ei cap = l <;> simp [hml2]
      · rw [← hc2]
        refine VR.sl hE (by rw [hc2]; omega) ?_
        by_cases hml2 : capOf ei cap = l
        · right; rw [hc2]; omega
        · simp only [hml2, if_false]
          rcases ha with ha | ha
          · left; rw [ha, add_eq, Nat.add_assoc]
          · right; rw [hc2]; omega
  · exact (bad_ok.1 h).elim
theorem isOk_some {α : Type} {o : Option α} (h : isOk o = true) : ∃ a, o = some a := by
  cases o with
  | none => cases h
  | some a => exact ⟨a, rfl⟩
end
end Go.Sx

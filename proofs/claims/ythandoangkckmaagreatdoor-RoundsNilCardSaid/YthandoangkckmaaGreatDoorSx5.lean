import Derived.Test.YthandoangkckmaaGreatDoorSx4
import Derived.Laws.Entries
import Derived.Laws.Cells
import Derived.ChangeKeysEq
import Derived.Laws.StructEq
import Derived.Laws.Append
import Derived.Laws.IdiomCopy
namespace Go.Sx

/-! ## Inversions -/
theorem bind_ok {α β : Type} {m : M α} {f : α → M β} {c : Nat} {h : Heap} {b : β} {c' : Nat} {h' : Heap} {L : Lg} :
    M.bind m f c h = .ok b c' h' L ↔ ∃ a c1 h1 l1 l2, m c h = .ok a c1 h1 l1 ∧ f a c1 h1 = .ok b c' h' l2 ∧ L = .app l1 l2 := by
  unfold M.bind
  constructor
  · intro hh
    cases hm : m c h with
    | bad n => rw [hm] at hh; cases hh
    | ok a c1 h1 l1 =>
      rw [hm] at hh
      dsimp only at hh
      cases hf : f a c1 h1 with
      | bad n => rw [hf] at hh; cases hh
      | ok b2 c2 h2 l2 =>
        rw [hf] at hh
        cases hh
        exact ⟨a, c1, h1, l1, l2, rfl, hf, rfl⟩
  · rintro ⟨a, c1, h1, l1, l2, hm, hf, rfl⟩
    rw [hm]; simp only [hf]
theorem pure_ok {α : Type} {a b : α} {c : Nat} {h : Heap} {c' : Nat} {h' : Heap} {L : Lg} : M.pure a c h = .ok b c' h' L ↔ a = b ∧ c' = c ∧ h' = h ∧ L = .nil := by
  unfold M.pure
  constructor
  · intro hh; cases hh; exact ⟨rfl, rfl, rfl, rfl⟩
  · rintro ⟨rfl, rfl, rfl, rfl⟩; rfl
theorem bad_ok {α : Type} {n : Nat} {b : α} {c : Nat} {h : Heap} {c' : Nat} {h' : Heap} {L : Lg} : (M.bad n : M α) c h = .ok b c' h' L ↔ False := by
  unfold M.bad
  constructor
  · intro hh; cases hh
  · exact False.elim
theorem opt_ok {α : Type} {n : Nat} {o : Option α} {b : α} {c : Nat} {h : Heap} {c' : Nat} {h' : Heap} {L : Lg} : optM n o c h = .ok b c' h' L ↔ o = some b ∧ c' = c ∧ h' = h ∧ L = .nil := by
  cases o with
  | none => simp [optM, bad_ok]
  | some a => simp [optM, pure_ok]
theorem guard_ok {n : Nat} {t : Bool} {b : Unit} {c : Nat} {h : Heap} {c' : Nat} {h' : Heap} {L : Lg} : guardM n t c h = .ok b c' h' L ↔ t = true ∧ c' = c ∧ h' = h ∧ L = .nil := by
  cases t <;> simp [guardM, bad_ok, pure_ok]
theorem eval_ok {f : Fr} {x : Operand} {v : Value} {c : Nat} {h : Heap} {c' : Nat} {h' : Heap} {L : Lg} (hh : f.eval x c h = .ok v c' h' L) : c' = c ∧ h' = h ∧ L = .nil := by
  cases x with
  | tmp t => exact (opt_ok.1 hh).2
  | const u =>
    simp only [Fr.eval] at hh
    cases hc : cleanB u <;> rw [hc] at hh <;> simp only [cond_true, cond_false] at hh
    · exact (bad_ok.1 hh).elim
    · exact (pure_ok.1 hh).2
  | global g => simp only [Fr.eval] at hh; exact (bad_ok.1 hh).elim
  | func g => exact (pure_ok.1 hh).2

theorem bopt {α β : Type} {n : Nat} {o : Option α} {f : α → M β} {c : Nat} {h : Heap} {b : β} {c' : Nat} {h' : Heap} {L : Lg} (hh : M.bind (optM n o) f c h = .ok b c' h' L) :
    ∃ a l, o = some a ∧ f a c h = .ok b c' h' l := by
  obtain ⟨a, c1, h1, l1, l2, ha, hb, _⟩ := bind_ok.1 hh
  obtain ⟨ho, rfl, rfl, rfl⟩ := opt_ok.1 ha
  exact ⟨a, l2, ho, hb⟩
theorem bguard {β : Type} {n : Nat} {t : Bool} {f : Unit → M β} {c : Nat} {h : Heap} {b : β} {c' : Nat} {h' : Heap} {L : Lg} (hh : M.bind (guardM n t) f c h = .ok b c' h' L) :
    ∃ l, t = true ∧ f () c h = .ok b c' h' l := by
  obtain ⟨a, c1, h1, l1, l2, ha, hb, _⟩ := bind_ok.1 hh
  obtain ⟨ho, rfl, rfl, rfl⟩ := guard_ok.1 ha
  exact ⟨l2, ho, hb⟩
theorem beval {β : Type} {g : Fr} {x : Operand} {f : Value → M β} {c : Nat} {h : Heap} {b : β} {c' : Nat} {h' : Heap} {L : Lg} (hh : M.bind (g.eval x) f c h = .ok b c' h' L) :
    ∃ v l, g.eval x c h = .ok v c h .nil ∧ f v c h = .ok b c' h' l := by
  obtain ⟨a, c1, h1, l1, l2, ha, hb, _⟩ := bind_ok.1 hh
  obtain ⟨rfl, rfl, rfl⟩ := eval_ok ha
  exact ⟨a, l2, ha, hb⟩

/-! ## Reads and writes at once -/
theorem rdN_run {i : Nat} {T : TypeId} {cs : Cells} {ro : Bool} {c : Nat} {H : Heap} (hi : H.get i = some (.row T cs ro)) : ∀ {n o : Nat} {vs : List Value}, vs.length = n → (∀ k, k < n → cs.get (o + k) = vs[k]?) →
    rdN i o n c H = .ok vs c H (lgR i o n)
  | 0, o, vs, hl, _ => by
    have : vs = [] := List.eq_nil_of_length_eq_zero hl
    subst this; rfl
  | n + 1, o, vs, hl, h => by
    cases vs with
    | nil => simp at hl
    | cons v vs =>
      have h0 : cs.get o = some v := by simpa using h 0 (by omega)
      have hr : rd i o c H = .ok v c H (.one (.cell i o false)) := by simp [rd, hi, h0]
      have ih := rdN_run (c := c) hi (n := n) (o := o + 1) (vs := vs) (by simpa using hl) (fun k hk => by
        have := h (k + 1) (by omega)
        simpa [Nat.add_assoc, Nat.add_comm 1 k] using this)
      simp only [rdN, M.bind, hr, ih, M.pure, lgR]
theorem rdB_eq (i o n : Nat) : rdB i o n = rdN i o n := by
  funext c h
  unfold rdB
  split
  · rename_i T cs ro hi
    split
    · rename_i vs hv
      obtain ⟨h1, h2⟩ := Cells.ext_get hv
      exact (rdN_run hi h1 h2).symm
    · rfl
  · rfl
theorem wrN_run {i : Nat} {T : TypeId} {c : Nat} : ∀ {vs : List Value} {cs : Cells} {o : Nat} {H : Heap}, H.get i = some (.row T cs false) → 0 < vs.length → vs.all oneB = true → (∀ k, k < vs.length → (cs.get (o + k)).isSome = true) →
    wrN i o vs c H = .ok () c (H.set i (.row T (cs.sets o vs) false)) (lgW i o vs.length)
  | [], _, _, _, _, h, _, _ => by simp at h
  | v :: vs, cs, o, H, hi, _, ha, h => by
    simp only [List.all_cons, Bool.and_eq_true] at ha
    obtain ⟨u, h0⟩ : ∃ u, cs.get o = some u := by
      have := h 0 (by simp)
      rw [Nat.add_zero] at this
      exact Option.isSome_iff_exists.1 this
    have hw : wr i o v c H = .ok () c (H.set i (.row T (cs.set o v) false)) (.app (.one (.info i)) (.one (.cell i o true))) := by simp [wr, hi, h0, ha.1]
    cases vs with
    | nil => simp only [wrN, M.bind, hw, M.pure, Cells.sets, lgW, List.length_cons, List.length_nil]
    | cons u2 us =>
      have ih := wrN_run (c := c) (vs := u2 :: us) (cs := cs.set o v) (o := o + 1) (H := H.set i (.row T (cs.set o v) false)) (Tr.get_set_self _ _ _) (by simp) ha.2 (fun k hk => by
        rw [Cells.get_set h0]
        split
        · rfl
        · have := h (k + 1) (by simp only [List.length_cons] at *; omega)
          rw [show o + (k + 1) = o + 1 + k from by omega] at this
          exact this)
      rw [wrN]
      simp only [M.bind, hw, ih, Tr.set_set]
      rfl
theorem wrB_eq (i o : Nat) (vs : List Value) : wrB i o vs = wrN i o vs := by
  funext c h
  unfold wrB
  split
  · rfl
  · rename_i v vs
    split
    · rename_i T cs hi
      cases ha : (v :: vs).all oneB with
      | false => rfl
      | true =>
        simp only [cond_true]
        split
        · rename_i cs' hp
          obtain ⟨h1, h2⟩ := Cells.put_eq hp (by simp)
          rw [h1]
          exact (wrN_run hi (by simp) ha h2).symm
        · rfl
    · rfl

section
variable {P : Program} {w0 : World} {F : Nat → Prop} {E : Env} {H : Heap} {w : World}

/-! ## Types -/
theorem size_info {t : TypeId} {n : Nat} (h : sizeB P t = some n) : ∃ i, P.info? t = some i ∧ i.size = n := by
  unfold sizeB at h; split at h
  · rename_i i hi; cases h; exact ⟨i, hi, rfl⟩
  · cases h
theorem zero_info {t : TypeId} {z : Value} (h : zeroB P t = some z) : ∃ i, P.info? t = some i ∧ i.zero = some z := by
  unfold zeroB at h; split at h
  · rename_i i hi; exact ⟨i, hi, h⟩
  · cases h
theorem bytes_info {t : TypeId} {n : Nat} (h : bytesB P t = some n) : ∃ i, P.info? t = some i ∧ i.bytes = n := by
  unfold bytesB at h; split at h
  · rename_i i hi; cases h; exact ⟨i, hi, rfl⟩
  · cases h
theorem run_info {t : TypeId} {i : TypeInfo} (h : P.info? t = some i) (w : World) : (typeInfo t).run P w = .ok i w := by
  simp [typeInfo, h]
theorem run_size {t : TypeId} {n : Nat} (h : sizeB P t = some n) (w : World) : (sizeOf t).run P w = .ok n w := by
  obtain ⟨i, hi, rfl⟩ := size_info h
  simp [sizeOf, run_info hi]
theorem run_zero {t : TypeId} {z : Value} (h : zeroB P t = some z) (w : World) : (zeroValue t).run P w = .ok z w := by
  obtain ⟨i, hi, hz⟩ := zero_info h
  simp [zeroValue, run_info hi, hz]
theorem run_agg {t : TypeId} {b : Bool} (h : aggB P t = some b) (w : World) : (isAgg t).run P w = .ok b w := by
  unfold aggB at h
  split at h <;> cases h <;> rename_i hu <;> simp only [isAgg, Sem.run_bind, run_underlying hu, Result.andThen_ok]
  · rfl
  · rfl
  · rename_i d h1 h2
    cases d <;> first | rfl | (exact absurd rfl (h1 _)) | (exact absurd rfl (h2 _ _))

/-! ## Loads and stores -/
theorem rdN_inv : ∀ {n i o c : Nat} {H : Heap} {vs : List Value} {c' : Nat} {H' : Heap} {L : Lg}, rdN i o n c H = .ok vs c' H' L → c' = c ∧ H' = H ∧ vs.length = n
  | 0, i, o, c, H, vs, c', H', L, h => by
    obtain ⟨rfl, rfl, rfl, _⟩ := pure_ok.1 h; exact ⟨rfl, rfl, rfl⟩
  | n + 1, i, o, c, H, vs, c', H', L, h => by
    obtain ⟨v, c1, h1, l1, l2, ha, hb, _⟩ := bind_ok.1 h
    obtain ⟨us, c2, h2, l3, l4, hc, hd, _⟩ := bind_ok.1 hb
    obtain ⟨rfl, rfl, rfl, _⟩ := pure_ok.1 hd
    obtain ⟨rfl, rfl, _⟩ := rd_inv ha
    obtain ⟨rfl, rfl, hl⟩ := rdN_inv hc
    exact ⟨rfl, rfl, by simp [hl]⟩
theorem rdN_sound [Den] {n : Nat} : ∀ {i o c : Nat} {vs : List Value} {c' : Nat} {H' : Heap} {L : Lg}, rdN i o n c H = .ok vs c' H' L → HR P w0 F E H w → ∀ {e : EI}, E i = some e →
    ∃ vs', LR E vs vs' ∧ vs'.all oneB = true ∧ ∀ (j : Nat) v, vs'[j]? = some v → w.cell? ⟨e.blk, e.off + o + j, none⟩ = some v := by
  induction n with
  | zero =>
    intro i o c vs c' H' L h hr e he
    obtain ⟨rfl, _⟩ := pure_ok.1 h
    exact ⟨[], LR.nil E, rfl, fun j v hj => by simp at hj⟩
  | succ n ih =>
    intro i o c vs c' H' L h hr e he
    obtain ⟨v, c1, h1, l1, l2, ha, hb, _⟩ := bind_ok.1 h
    obtain ⟨us, c2, h2, l3, l4, hc, hd, _⟩ := bind_ok.1 hb
    obtain ⟨rfl, rfl, rfl, _⟩ := pure_ok.1 hd
    obtain ⟨v', hv1, hv2, hv3⟩ := rd_sound hr ha he
    obtain ⟨rfl, rfl, _⟩ := rd_inv ha
    obtain ⟨us', hu1, hu2, hu3⟩ := ih hc hr he
    refine ⟨v' :: us', LR.cons hv2 hu1, by simp only [List.all_cons, hv3, hu2, Bool.and_self], fun j u hj => ?_⟩
    cases j with
    | zero => simp at hj; subst hj; exact hv1
    | succ j =>
      have := hu3 j u (by simpa using hj)
      rw [show e.off + o + (j + 1) = e.off + (o + 1) + j from by omega]; exact this
theorem add_eq {b o n : Nat} : (⟨b, o, none⟩ : Addr).add n = ⟨b, o + n, none⟩ := by
  unfold Addr.add; split
  · rename_i h; subst h; rfl
  · rfl
theorem run_cells {b o : Nat} {vs : List Value} (h : ∀ (j : Nat) v, vs[j]? = some v → w.cell? ⟨b, o + j, none⟩ = some v) : (loadCells ⟨b, o, none⟩ vs.length).run P w = .ok vs.toArray w := by
  have := run_loadCells_list (P := P) (w := w) (⟨b, o, none⟩ : Addr) vs (fun j v hv => by rw [add_eq]; exact h j v hv)
  simpa using this

theorem load_sound [Den] {t : TypeId} {a a' v : Value} {c c' : Nat} {H' : Heap} {L : Lg} (h : loadA P t a c H = .ok v c' H' L) (hr : HR P w0 F E H w) (ha : VR E a a') :
    c' = c ∧ H' = H ∧ ∃ v', (Instr.loadAt t a').run P w = .ok v' w ∧ VR E v v' := by
  unfold loadA at h
  simp only [rdB_eq] at h
  split at h
  · rename_i i o
    cases ha with
    | ptr he =>
      rename_i e
      obtain ⟨b, c1, h1, l1, l2, hb0, h2, _⟩ := bind_ok.1 h
      obtain ⟨hb, rfl, rfl, rfl⟩ := opt_ok.1 hb0
      cases b with
      | true =>
        simp only [cond_true] at h2
        obtain ⟨n, c2, h3, l3, l4, hn0, h4, _⟩ := bind_ok.1 h2
        obtain ⟨hn, rfl, rfl, rfl⟩ := opt_ok.1 hn0
        obtain ⟨vs, c3, h5, l5, l6, hv, h6, _⟩ := bind_ok.1 h4
        obtain ⟨rfl, rfl, rfl, _⟩ := pure_ok.1 h6
        obtain ⟨vs', k1, k2, k3⟩ := rdN_sound hv hr he
        obtain ⟨rfl, rfl, hl⟩ := rdN_inv hv
        refine ⟨rfl, rfl, .agg vs'.toArray, ?_, .agg_of (by simpa using k1)⟩
        have hlen : vs'.length = n := by rw [← k1.1]; exact hl
        simp only [Instr.loadAt, Instr.sureAddr, loadVar, Sem.run_bind, Sem.run_pure, Result.andThen_ok, run_agg hb, if_true, run_size hn]
        rw [← hlen, run_cells k3]; rfl
      | false =>
        simp only [cond_false] at h2
        obtain ⟨v', k1, k2, k3⟩ := rd_sound hr h2 he
        obtain ⟨rfl, rfl, _⟩ := rd_inv h2
        refine ⟨rfl, rfl, v', ?_, k2⟩
        simp only [Instr.loadAt, Instr.sureAddr, loadVar, Sem.run_bind, Sem.run_pure, Result.andThen_ok, run_agg hb, Bool.false_eq_true, if_false, run_load, k1]
  · exact (bad_ok.1 h).elim

theorem wrN_sound [Den] : ∀ {vs vs' : List Value} {i o c : Nat} {H : Heap} {w : World} {c' : Nat} {H' : Heap} {L : Lg} {k : Nat}, wrN i (o + k) vs c H = .ok () c' H' L → HR P w0 F E H w → LR E vs vs' → ∀ {e : EI}, E i = some e →
    c' = c ∧ ∃ w', (storeCells ⟨e.blk, e.off + o, none⟩ vs' k).run P w = .ok () w' ∧ HR P w0 F E H' w' ∧ w'.heap.size = w.heap.size
  | [], vs', i, o, c, H, w, c', H', L, k, h, hr, hl, e, he => by
    obtain ⟨_, rfl, rfl, _⟩ := pure_ok.1 h
    rw [hl.nil_inv]
    exact ⟨rfl, w, rfl, hr, rfl⟩
  | v :: vs, vs', i, o, c, H, w, c', H', L, k, h, hr, hl, e, he => by
    obtain ⟨u, c1, h1, l1, l2, ha, hb, _⟩ := bind_ok.1 h
    obtain ⟨v', ws, rfl, hv, hl'⟩ := hl.cons_inv
    obtain ⟨⟨x, hx⟩, hf, hr'⟩ := wr_sound hr ha he hv
    obtain ⟨rfl, _, ho, _⟩ := wr_inv ha
    obtain ⟨rfl, w', k1, k2, k3⟩ := wrN_sound (k := k + 1) (by rw [← Nat.add_assoc]; exact hb) hr' hl' he
    refine ⟨rfl, w', ?_, k2, by rw [k3, size_setCell]⟩
    have ho' : v'.oneCell' = true := by rw [← oneB_iff, hv.oneB]; exact ho
    have e1 : e.off + (o + k) = e.off + o + k := by omega
    rw [e1] at hx hf k1
    simp only [storeCells, Sem.run_bind, add_eq, run_store _ _ _ _ _ ho', hx, hf, Bool.false_eq_true, if_false, Result.andThen_ok]
    exact k1
theorem store_sound [Den] {t : TypeId} {a a' v v' : Value} {c c' : Nat} {H' : Heap} {L : Lg} (h : storeA P t a v c H = .ok () c' H' L) (hr : HR P w0 F E H w) (ha : VR E a a') (hv : VR E v v') :
    c' = c ∧ ∃ w', (Instr.storeAt t a' v').run P w = .ok () w' ∧ HR P w0 F E H' w' := by
  unfold storeA at h
  simp only [wrB_eq] at h
  split at h
  · rename_i i o
    cases ha with
    | ptr he =>
      rename_i e
      obtain ⟨n, c1, h1, l1, l2, hn0, h2, _⟩ := bind_ok.1 h
      obtain ⟨hn, rfl, rfl, rfl⟩ := opt_ok.1 hn0
      obtain ⟨u, c2, h3, l3, l4, hg0, h4, _⟩ := bind_ok.1 h2
      obtain ⟨hg, rfl, rfl, rfl⟩ := guard_ok.1 hg0
      have hsz : v'.cells.size = n := by
        have := hv.cells.1
        simp at this
        rw [← this]; exact Nat.eq_of_beq_eq_true hg
      obtain ⟨rfl, w', k1, k2, _⟩ := wrN_sound (k := 0) h4 hr hv.cells he
      refine ⟨rfl, w', ?_, k2⟩
      simp only [Instr.storeAt, Instr.sureAddr, storeVar, Sem.run_bind, Sem.run_pure, Result.andThen_ok, run_size hn, Sem.run_ite]
      rw [if_neg (by omega)]
      exact k1
  · exact (bad_ok.1 h).elim

theorem run_newRow (T : TypeId) (cells : Array Value) (w : World) : (newRow T cells).run P w = .ok ⟨w.heap.size, 0, none⟩ { w with heap := w.heap.push (.cells cells T (0, 0)) } := by
  simp [newRow]
theorem newRow_sound [Den] {T : TypeId} {cs cs' : List Value} {v : Value} {c c' : Nat} {H' : Heap} {L : Lg} (h : newRowA T cs c H = .ok v c' H' L) (hr : HR P w0 F E H w) (hc : LR E cs cs') :
    ∃ E', E.le E' ∧ HR P w0 F E' H' { w with heap := w.heap.push (.cells cs'.toArray T (0, 0)) } ∧ VR E' v (.pointer (some ⟨w.heap.size, 0, none⟩)) := by
  unfold newRowA at h
  obtain ⟨u, c1, h1, l1, l2, hg0, h2, _⟩ := bind_ok.1 h
  obtain ⟨hg, rfl, rfl, rfl⟩ := guard_ok.1 hg0
  obtain ⟨j, c2, h3, l3, l4, hn, h4, _⟩ := bind_ok.1 h2
  obtain ⟨rfl, rfl, rfl, _⟩ := pure_ok.1 h4
  obtain ⟨rfl, rfl, hj, rfl, _⟩ := newA_inv hn
  obtain ⟨k1, k2⟩ := hr.newRow (T := T) (more := []) (cap := match sizeB P T with
    | some n => cs.length / n
    | none => 0) hj hc hg (fun n hn => by
      rw [hn]
      refine ⟨?_, Nat.le_refl _⟩
      rw [List.append_nil, ← hc.1]
      exact Nat.div_mul_le_self _ _)
  refine ⟨_, k1, by simpa using k2, ?_⟩
  generalize hcc : (match sizeB P T with
    | some n => cs.length / n
    | none => 0) = cc
  have : Env.upd E j ⟨w.heap.size, 0, cc⟩ j = some ⟨w.heap.size, 0, cc⟩ := by simp [Env.upd]
  have hp := VR.ptr (o := 0) this
  simpa using hp

/-! ## Building -/
theorem fold_set (vs : List Value) : ∀ (off j : Nat) (cells : List Value), off + j + vs.length ≤ cells.length →
    ((vs.zipIdx j).foldl (fun (cs : Array Value) (p : Value × Nat) => cs.setIfInBounds (off + p.2) p.1) cells.toArray).toList = cells.take (off + j) ++ vs ++ cells.drop (off + j + vs.length) := by
  induction vs with
  | nil => intro off j cells _; simp
  | cons v vs ih =>
    intro off j cells h
    simp only [List.length_cons] at h
    simp only [List.zipIdx_cons, List.foldl_cons, List.setIfInBounds_toArray]
    have hl : off + j < cells.length := by omega
    have := ih off (j + 1) (cells.set (off + j) v) (by simp; omega)
    rw [this]
    have h1 : (cells.set (off + j) v).take (off + (j + 1)) = cells.take (off + j) ++ [v] := by
      rw [← Nat.add_assoc, List.take_succ_eq_append_getElem (by simp; omega)]
      simp [List.take_set_of_le]
    have h2 : (cells.set (off + j) v).drop (off + (j + 1) + vs.length) = cells.drop (off + j + (v :: vs).length) := by
      rw [List.drop_set_of_lt (by omega)]
      congr 1; simp; omega
    rw [h1, h2]; simp
theorem fill_sound [Den] {place : Nat → Option (Nat × Nat)} : ∀ {parts parts' : List (Nat × Value)} {cells cells' out : List Value}, fillA place cells parts = some out → LR E cells cells' →
    parts.map (·.1) = parts'.map (·.1) → LR E (parts.map (·.2)) (parts'.map (·.2)) → ∃ out', Instr.fill place cells'.toArray parts' = some out'.toArray ∧ LR E out out'
  | [], parts', cells, cells', out, h, hl, hi, hp => by
    cases parts' with
    | nil => simp only [fillA, Option.some.injEq] at h; subst h; exact ⟨cells', rfl, hl⟩
    | cons q qs => simp at hi
  | (i, v) :: rest, parts', cells, cells', out, h, hl, hi, hp => by
    cases parts' with
    | nil => simp at hi
    | cons q qs =>
      obtain ⟨i', v'⟩ := q
      simp only [List.map_cons, List.cons.injEq] at hi
      obtain ⟨rfl, hi⟩ := hi
      obtain ⟨y, ys, he, hv, hp'⟩ := LR.cons_inv hp
      simp only [List.map_cons, List.cons.injEq] at he
      obtain ⟨rfl, rfl⟩ := he
      simp only [fillA] at h
      have hsz : v'.cells.size = v.cells.size := by
        have := hv.cells.1; simpa using this.symm
      cases hpl : place i with
      | none => rw [hpl] at h; cases h
      | some os =>
        obtain ⟨off, size⟩ := os
        rw [hpl] at h
        simp only at h
        split at h
        · cases h
        · rename_i hcond
          simp only [ne_eq, Bool.or_eq_true, decide_eq_true_eq, not_or, Decidable.not_not, Nat.not_lt] at hcond
          obtain ⟨hc1, hc2⟩ := hcond
          have hl' : LR E (cells.take off ++ v.cells.toList ++ cells.drop (off + v.cells.size)) (cells'.take off ++ v'.cells.toList ++ cells'.drop (off + v'.cells.size)) := by
            rw [hsz]
            exact LR.append (LR.append (hl.take _) hv.cells) (hl.drop _)
          obtain ⟨out', ho, hlo⟩ := fill_sound h hl' hi hp'
          refine ⟨out', ?_, hlo⟩
          simp only [Instr.fill, hpl]
          rw [if_neg (by simp [hsz, hc1]; rw [← hc1]; have := hl.1; omega)]
          rw [← ho]
          congr 1
          apply Array.toList_inj.1
          have := fold_set v'.cells.toList off 0 cells' (by simp [hsz]; have := hl.1; omega)
          simp only [Nat.add_zero, Array.length_toList] at this
          rw [← this, ← Array.foldl_toList, Array.toList_zipIdx]
end
/-! ## Equality of what is written out -/
theorem beqS_eq {a b : Value} (h : beqS a b = true) : a = b := by
  unfold beqS at h
  split at h <;> (try simp only [Bool.and_eq_true, beq_iff_eq, decide_eq_true_eq, Nat.beq_eq, reduceCtorEq] at h) <;>
    first
    | rfl
    | exact h.elim
    | (simp_all; done)
    | (subst h; rfl)
    | (rename_i a b; cases a; cases b; simp only at h; subst h; rfl)
    | (obtain ⟨h1, h2⟩ := h; subst h1 h2; rfl)
    | (obtain ⟨⟨h1, h2⟩, h3⟩ := h; subst h1 h2 h3; rfl)
    | (obtain ⟨⟨⟨h1, h2⟩, h3⟩, h4⟩ := h; subst h1 h2 h3 h4; rfl)
theorem beqL_eq : ∀ {a b : List Value}, beqL a b = true → a = b
  | [], [], _ => rfl
  | [], _ :: _, h => by cases h
  | _ :: _, [], h => by cases h
  | a :: as, b :: bs, h => by
    simp only [beqL, Bool.and_eq_true] at h
    rw [beqS_eq h.1, beqL_eq h.2]
theorem beqV_eq {a b : Value} (h : beqV a b = true) : a = b := by
  unfold beqV at h
  split at h
  · exact congrArg Value.agg (Array.toList_inj.1 (beqL_eq h))
  · exact congrArg Value.tuple (Array.toList_inj.1 (beqL_eq h))
  · exact beqS_eq h
theorem beqVL_eq : ∀ {a b : List Value}, beqVL a b = true → a = b
  | [], [], _ => rfl
  | [], _ :: _, h => by cases h
  | _ :: _, [], h => by cases h
  | a :: as, b :: bs, h => by
    simp only [beqVL, Bool.and_eq_true] at h
    rw [beqV_eq h.1, beqVL_eq h.2]
end Go.Sx

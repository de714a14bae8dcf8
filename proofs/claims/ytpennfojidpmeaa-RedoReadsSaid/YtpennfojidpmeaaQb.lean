import Derived.Test.YtpennfojidpmeaaQa
import Derived.Laws.Entries
import Derived.Laws.Cells
import Derived.ChangeKeysEq
import Derived.Laws.StructEq
import Derived.Laws.Append
import Derived.Laws.IdiomCopy
import Derived.Laws.CopyRow
namespace Go.Sx
theorem bind_ok {α β : Type} {m : M α} {f : α → M β} {c : Nat} {h : Heap} {b : β} {c' : Nat} {h' : Heap} {L : Lg} :
    M.bind m f c h = .ok b c' h' L ↔ ∃ a c1 h1 l1 l2, m c h = .ok a c1 h1 l1 ∧ f a c1 h1 = .ok b c' h' l2 ∧ L = .app l1 l2 := by
  unfold M.bind
  constructor
  · intro hh
    cases hm : m c h with
    | bad n => rw [hm] at hh; cases hh
    | ok a c1 h1 l1 =>
      rw [hm] at hh
      dsimp only at hh
      cases hf : f a c1 h1 with
      | bad n => rw [hf] at hh; cases hh
      | ok b2 c2 h2 l2 =>
        rw [hf] at hh
        cases hh
        exact ⟨a, c1, h1, l1, l2, rfl, hf, rfl⟩
  · rintro ⟨a, c1, h1, l1, l2, hm, hf, rfl⟩
    rw [hm]; simp only [hf]
theorem pure_ok {α : Type} {a b : α} {c : Nat} {h : Heap} {c' : Nat} {h' : Heap} {L : Lg} : M.pure a c h = .ok b c' h' L ↔ a = b ∧ c' = c ∧ h' = h ∧ L = .nil := by
  unfold M.pure
  constructor
  · intro hh; cases hh; exact ⟨rfl, rfl, rfl, rfl⟩
  · rintro ⟨rfl, rfl, rfl, rfl⟩; rfl
theorem bad_ok {α : Type} {n : Nat} {b : α} {c : Nat} {h : Heap} {c' : Nat} {h' : Heap} {L : Lg} : (M.bad n : M α) c h = .ok b c' h' L ↔ False := by
  unfold M.bad
  constructor
  · intro hh; cases hh
  · exact False.elim
theorem opt_ok {α : Type} {n : Nat} {o : Option α} {b : α} {c : Nat} {h : Heap} {c' : Nat} {h' : Heap} {L : Lg} : optM n o c h = .ok b c' h' L ↔ o = some b ∧ c' = c ∧ h' = h ∧ L = .nil := by
  cases o with
  | none => simp [optM, bad_ok]
  | some a => simp [optM, pure_ok]
theorem guard_ok {n : Nat} {t : Bool} {b : Unit} {c : Nat} {h : Heap} {c' : Nat} {h' : Heap} {L : Lg} : guardM n t c h = .ok b c' h' L ↔ t = true ∧ c' = c ∧ h' = h ∧ L = .nil := by
  cases t <;> simp [guardM, bad_ok, pure_ok]
theorem eval_ok {f : Fr} {x : Operand} {v : Value} {c : Nat} {h : Heap} {c' : Nat} {h' : Heap} {L : Lg} (hh : f.eval x c h = .ok v c' h' L) : c' = c ∧ h' = h ∧ L = .nil := by
  cases x with
  | tmp t => exact (opt_ok.1 hh).2
  | const u =>
    simp only [Fr.eval] at hh
    cases hc : cleanB u <;> rw [hc] at hh <;> simp only [cond_true, cond_false] at hh
    · exact (bad_ok.1 hh).elim
    · exact (pure_ok.1 hh).2
  | global g => simp only [Fr.eval] at hh; exact (bad_ok.1 hh).elim
  | func g => exact (pure_ok.1 hh).2
theorem bopt {α β : Type} {n : Nat} {o : Option α} {f : α → M β} {c : Nat} {h : Heap} {b : β} {c' : Nat} {h' : Heap} {L : Lg} (hh : M.bind (optM n o) f c h = .ok b c' h' L) :
    ∃ a l, o = some a ∧ f a c h = .ok b c' h' l := by
  obtain ⟨a, c1, h1, l1, l2, ha, hb, _⟩ := bind_ok.1 hh
  obtain ⟨ho, rfl, rfl, rfl⟩ := opt_ok.1 ha
  exact ⟨a, l2, ho, hb⟩
theorem bguard {β : Type} {n : Nat} {t : Bool} {f : Unit → M β} {c : Nat} {h : Heap} {b : β} {c' : Nat} {h' : Heap} {L : Lg} (hh : M.bind (guardM n t) f c h = .ok b c' h' L) :
    ∃ l, t = true ∧ f () c h = .ok b c' h' l := by
  obtain ⟨a, c1, h1, l1, l2, ha, hb, _⟩ := bind_ok.1 hh
  obtain ⟨ho, rfl, rfl, rfl⟩ := guard_ok.1 ha
  exact ⟨l2, ho, hb⟩
theorem beval {β : Type} {g : Fr} {x : Operand} {f : Value → M β} {c : Nat} {h : Heap} {b : β} {c' : Nat} {h' : Heap} {L : Lg} (hh : M.bind (g.eval x) f c h = .ok b c' h' L) :
    ∃ v l, g.eval x c h = .ok v c h .nil ∧ f v c h = .ok b c' h' l := by
  obtain ⟨a, c1, h1, l1, l2, ha, hb, _⟩ := bind_ok.1 hh
  obtain ⟨rfl, rfl, rfl⟩ := eval_ok ha
  exact ⟨a, l2, ha, hb⟩
theorem rdN_run {i : Nat} {T : TypeId} {cs : Cells} {ro : Bool} {c : Nat} {H : Heap} (hi : H.get i = some (.row T cs ro)) : ∀ {n o : Nat} {vs : List Value}, vs.length = n → (∀ k, k < n → cs.get (o + k) = vs[k]?) →
    rdN i o n c H = .ok vs c H (lgR i o n)
  | 0, o, vs, hl, _ => by
    have : vs = [] := List.eq_nil_of_length_eq_zero hl
    subst this; rfl
  | n + 1, o, vs, hl, h => by
    cases vs with
    | nil => simp at hl
    | cons v vs =>
      have h0 : cs.get o = some v := by simpa using h 0 (by omega)
      have hr : rd i o c H = .ok v c H (.one (.cell i o false)) := by simp [rd, hi, h0]
      have ih := rdN_run (c := c) hi (n := n) (o := o + 1) (vs := vs) (by simpa using hl) (fun k hk => by
        have := h (k + 1) (by omega)
        simpa [Nat.add_assoc, Nat.add_comm 1 k] using this)
      simp only [rdN, M.bind, hr, ih, M.pure, lgR]
theorem rdB_eq (i o n : Nat) : rdB i o n = rdN i o n := by
  funext c h
  unfold rdB
  split
  · rename_i T cs ro hi
    split
    · rename_i vs hv
      obtain ⟨h1, h2⟩ := Cells.ext_get hv
      exact (rdN_run hi h1 h2).symm
    · rfl
  · rfl
theorem wrN_run {i : Nat} {T : TypeId} {c : Nat} : ∀ {vs : List Value} {cs : Cells} {o : Nat} {H : Heap}, H.get i = some (.row T cs false) → 0 < vs.length → vs.all oneB = true → (∀ k, k < vs.length → (cs.get (o + k)).isSome = true) →
    wrN i o vs c H = .ok () c (H.set i (.row T (cs.sets o vs) false)) (lgW i o vs.length)
  | [], _, _, _, _, h, _, _ => by simp at h
  | v :: vs, cs, o, H, hi, _, ha, h => by
    simp only [List.all_cons, Bool.and_eq_true] at ha
    obtain ⟨u, h0⟩ : ∃ u, cs.get o = some u := by
      have := h 0 (by simp)
      rw [Nat.add_zero] at this
      exact Option.isSome_iff_exists.1 this
    have hw : wr i o v c H = .ok () c (H.set i (.row T (cs.set o v) false)) (.app (.one (.info i)) (.one (.cell i o true))) := by simp [wr, hi, h0, ha.1]
    cases vs with
    | nil => simp only [wrN, M.bind, hw, M.pure, Cells.sets, lgW, List.length_cons, List.length_nil]
    | cons u2 us =>
      have ih := wrN_run (c := c) (vs := u2 :: us) (cs := cs.set o v) (o := o + 1) (H := H.set i (.row T (cs.set o v) false)) (Tr.get_set_self _ _ _) (by simp) ha.2 (fun k hk => by
        rw [Cells.get_set h0]
        split
        · rfl
        · have := h (k + 1) (by simp only [List.length_cons] at *; omega)
          rw [show o + (k + 1) = o + 1 + k from by omega] at this
          exact this)
      rw [wrN]
      simp only [M.bind, hw, ih, Tr.set_set]
      rfl
theorem wrB_eq (i o : Nat) (vs : List Value) : wrB i o vs = wrN i o vs := by
  funext c h
  unfold wrB
  split
  · rfl
  · rename_i v vs
    split
    · rename_i T cs hi
      cases ha : (v :: vs).all oneB with
      | false => rfl
      | true =>
        simp only [cond_true]
        split
        · rename_i cs' hp
          obtain ⟨h1, h2⟩ := Cells.put_eq hp (by simp)
          rw [h1]
          exact (wrN_run hi (by simp) ha h2).symm
        · rfl
    · rfl
section
variable {P : Program} {w0 : World} {F : Nat → Prop} {E : Env} {H : Heap} {w : World}
theorem size_info {t : TypeId} {n : Nat} (h : sizeB P t = some n) : ∃ i, P.info? t = some i ∧ i.size = n := by
  unfold sizeB at h; split at h
  · rename_i i hi; cases h; exact ⟨i, hi, rfl⟩
  · cases h
theorem zero_info {t : TypeId} {z : Value} (h : zeroB P t = some z) : ∃ i, P.info? t = some i ∧ i.zero = some z := by
  unfold zeroB at h; split at h
  · rename_i i hi; exact ⟨i, hi, h⟩
  · cases h
theorem bytes_info {t : TypeId} {n : Nat} (h : bytesB P t = some n) : ∃ i, P.info? t = some i ∧ i.bytes = n := by
  unfold bytesB at h; split at h
  · rename_i i hi; cases h; exact ⟨i, hi, rfl⟩
  · cases h
theorem run_info {t : TypeId} {i : TypeInfo} (h : P.info? t = some i) (w : World) : (typeInfo t).run P w = .ok i w := by
  simp [typeInfo, h]
theorem run_size {t : TypeId} {n : Nat} (h : sizeB P t = some n) (w : World) : (sizeOf t).run P w = .ok n w := by
  obtain ⟨i, hi, rfl⟩ := size_info h
  simp [sizeOf, run_info hi]
theorem run_zero {t : TypeId} {z : Value} (h : zeroB P t = some z) (w : World) : (zeroValue t).run P w = .ok z w := by
  obtain ⟨i, hi, hz⟩ := zero_info h
  simp [zeroValue, run_info hi, hz]
theorem run_agg {t : TypeId} {b : Bool} (h : aggB P t = some b) (w : World) : (isAgg t).run P w = .ok b w := by
  unfold aggB at h
  split at h <;> cases h <;> rename_i hu <;> simp only [isAgg, Sem.run_bind, run_underlying hu, Result.andThen_ok]
  · rfl
  · rfl
  · rename_i d h1 h2
    cases d <;> first | rfl | (exact absurd rfl (h1 _)) | (exact absurd rfl (h2 _ _))
theorem rdN_inv : ∀ {n i o c : Nat} {H : Heap} {vs : List Value} {c' : Nat} {H' : Heap} {L : Lg}, rdN i o n c H = .ok vs c' H' L → c' = c ∧ H' = H ∧ vs.length = n
  | 0, i, o, c, H, vs, c', H', L, h => by
    obtain ⟨rfl, rfl, rfl, _⟩ := pure_ok.1 h; exact ⟨rfl, rfl, rfl⟩
  | n + 1, i, o, c, H, vs, c', H', L, h => by
    obtain ⟨v, c1, h1, l1, l2, ha, hb, _⟩ := bind_ok.1 h
    obtain ⟨us, c2, h2, l3, l4, hc, hd, _⟩ := bind_ok.1 hb
    obtain ⟨rfl, rfl, rfl, _⟩ := pure_ok.1 hd
    obtain ⟨rfl, rfl, _⟩ := rd_inv ha
    obtain ⟨rfl, rfl, hl⟩ := rdN_inv hc
    exact ⟨rfl, rfl, by simp [hl]⟩
theorem rdN_sound [Den] {n : Nat} : ∀ {i o c : Nat} {vs : List Value} {c' : Nat} {H' : Heap} {L : Lg}, rdN i o n c H = .ok vs c' H' L → HR P w0 F E H w → ∀ {e : EI}, E i = some e →
    ∃ vs', LR E vs vs' ∧ vs'.all oneB = true ∧ ∀ (j : Nat) v, vs'[j]? = some v → w.cell? ⟨e.blk, e.off + o + j, none⟩ = some v := by
  induction n with
  | zero =>
    intro i o c vs c' H' L h hr e he
    obtain ⟨rfl, _⟩ := pure_ok.1 h
    exact ⟨[], LR.nil E, rfl, fun j v hj => by simp at hj⟩
  | succ n ih =>
    intro i o c vs c' H' L h hr e he
    obtain ⟨v, c1, h1, l1, l2, ha, hb, _⟩ := bind_ok.1 h
    obtain ⟨us, c2, h2, l3, l4, hc, hd, _⟩ := bind_ok.1 hb
    obtain ⟨rfl, rfl, rfl, _⟩ := pure_ok.1 hd
    obtain ⟨v', hv1, hv2, hv3⟩ := rd_sound hr ha he
    obtain ⟨rfl, rfl, _⟩ := rd_inv ha
    obtain ⟨us', hu1, hu2, hu3⟩ := ih hc hr he
    refine ⟨v' :: us', LR.cons hv2 hu1, by simp only [List.all_cons, hv3, hu2, Bool.and_self], fun j u hj => ?_⟩
    cases j with
    | zero => simp at hj; subst hj; exact hv1
    | succ j =>
      have := hu3 j u (by simpa using hj)
      rw [show e.off + o + (j + 1) = e.off + (o + 1) + j from by omega]; exact this
theorem add_eq {b o n : Nat} : (⟨b, o, none⟩ : Addr).add n = ⟨b, o + n, none⟩ := by
  unfold Addr.add; split
  · rename_i h; subst h; rfl
  · rfl
theorem run_cells {b o : Nat} {vs : List Value} (h : ∀ (j : Nat) v, vs[j]? = some v → w.cell? ⟨b, o + j, none⟩ = some v) : (loadCells ⟨b, o, none⟩ vs.length).run P w = .ok vs.toArray w := by
  have := run_loadCells_list (P := P) (w := w) (⟨b, o, none⟩ : Addr) vs (fun j v hv => by rw [add_eq]; exact h j v hv)
  simpa using this
theorem load_sound [Den] {t : TypeId} {a a' v : Value} {c c' : Nat} {H' : Heap} {L : Lg} (h : loadA P t a c H = .ok v c' H' L) (hr : HR P w0 F E H w) (ha : VR E a a') :
    c' = c ∧ H' = H ∧ ∃ v', (Instr.loadAt t a').run P w = .ok v' w ∧ VR E v v' := by
  unfold loadA at h
  simp only [rdB_eq] at h
  split at h
  · rename_i i o
    cases ha with
    | ptr he =>
      rename_i e
      obtain ⟨b, c1, h1, l1, l2, hb0, h2, _⟩ := bind_ok.1 h
      obtain ⟨hb, rfl, rfl, rfl⟩ := opt_ok.1 hb0
      cases b with
      | true =>
        simp only [cond_true] at h2
        obtain ⟨n, c2, h3, l3, l4, hn0, h4, _⟩ := bind_ok.1 h2
        obtain ⟨hn, rfl, rfl, rfl⟩ := opt_ok.1 hn0
        obtain ⟨vs, c3, h5, l5, l6, hv, h6, _⟩ := bind_ok.1 h4
        obtain ⟨rfl, rfl, rfl, _⟩ := pure_ok.1 h6
        obtain ⟨vs', k1, k2, k3⟩ := rdN_sound hv hr he
        obtain ⟨rfl, rfl, hl⟩ := rdN_inv hv
        refine ⟨rfl, rfl, .agg vs'.toArray, ?_, .agg_of (by simpa using k1)⟩
        have hlen : vs'.length = n := by rw [← k1.1]; exact hl
        simp only [Instr.loadAt, Instr.sureAddr, loadVar, Sem.run_bind, Sem.run_pure, Result.andThen_ok, run_agg hb, if_true, run_size hn]
        rw [← hlen, run_cells k3]; rfl
      | false =>
        simp only [cond_false] at h2
        obtain ⟨v', k1, k2, k3⟩ := rd_sound hr h2 he
        obtain ⟨rfl, rfl, _⟩ := rd_inv h2
        refine ⟨rfl, rfl, v', ?_, k2⟩
        simp only [Instr.loadAt, Instr.sureAddr, loadVar, Sem.run_bind, Sem.run_pure, Result.andThen_ok, run_agg hb, Bool.false_eq_true, if_false, run_load, k1]
  · exact (bad_ok.1 h).elim
theorem wrN_sound [Den] : ∀ {vs vs' : List Value} {i o c : Nat} {H : Heap} {w : World} {c' : Nat} {H' : Heap} {L : Lg} {k : Nat}, wrN i (o + k) vs c H = .ok () c' H' L → HR P w0 F E H w → LR E vs vs' → ∀ {e : EI}, E i = some e →
    c' = c ∧ ∃ w', (storeCells ⟨e.blk, e.off + o, none⟩ vs' k).run P w = .ok () w' ∧ HR P w0 F E H' w' ∧ w'.heap.size = w.heap.size
  | [], vs', i, o, c, H, w, c', H', L, k, h, hr, hl, e, he => by
    obtain ⟨_, rfl, rfl, _⟩ := pure_ok.1 h
    rw [hl.nil_inv]
    exact ⟨rfl, w, rfl, hr, rfl⟩
  | v :: vs, vs', i, o, c, H, w, c', H', L, k, h, hr, hl, e, he => by
    obtain ⟨u, c1, h1, l1, l2, ha, hb, _⟩ := bind_ok.1 h
    obtain ⟨v', ws, rfl, hv, hl'⟩ := hl.cons_inv
    obtain ⟨⟨x, hx⟩, hf, hr'⟩ := wr_sound hr ha he hv
    obtain ⟨rfl, _, ho, _⟩ := wr_inv ha
    obtain ⟨rfl, w', k1, k2, k3⟩ := wrN_sound (k := k + 1) (by rw [← Nat.add_assoc]; exact hb) hr' hl' he
    refine ⟨rfl, w', ?_, k2, by rw [k3, size_setCell]⟩
    have ho' : v'.oneCell' = true := by rw [← oneB_iff, hv.oneB]; exact ho
    have e1 : e.off + (o + k) = e.off + o + k := by omega
    rw [e1] at hx hf k1
    simp only [storeCells, Sem.run_bind, add_eq, run_store _ _ _ _ _ ho', hx, hf, Bool.false_eq_true, if_false, Result.andThen_ok]
    exact k1
theorem store_sound [Den] {t : TypeId} {a a' v v' : Value} {c c' : Nat} {H' : Heap} {L : Lg} (h : storeA P t a v c H = .ok () c' H' L) (hr : HR P w0 F E H w) (ha : VR E a a') (hv : VR E v v') :
    c' = c ∧ ∃ w', (Instr.storeAt t a' v').run P w = .ok () w' ∧ HR P w0 F E H' w' := by
  unfold storeA at h
  simp only [wrB_eq] at h
  split at h
  · rename_i i o
    cases ha with
    | ptr he =>
      rename_i e
      obtain ⟨n, c1, h1, l1, l2, hn0, h2, _⟩ := bind_ok.1 h
      obtain ⟨hn, rfl, rfl, rfl⟩ := opt_ok.1 hn0
      obtain ⟨u, c2, h3, l3, l4, hg0, h4, _⟩ := bind_ok.1 h2
      obtain ⟨hg, rfl, rfl, rfl⟩ := guard_ok.1 hg0
      have hsz : v'.cells.size = n := by
        have := hv.cells.1
        simp at this
        rw [← this]; exact Nat.eq_of_beq_eq_true hg
      obtain ⟨rfl, w', k1, k2, _⟩ := wrN_sound (k := 0) h4 hr hv.cells he
      refine ⟨rfl, w', ?_, k2⟩
      simp only [Instr.storeAt, Instr.sureAddr, storeVar, Sem.run_bind, Sem.run_pure, Result.andThen_ok, run_size hn, Sem.run_ite]
      rw [if_neg (by omega)]
      exact k1
  · exact (bad_ok.1 h).elim
theorem run_newRow (T : TypeId) (cells : Array Value) (w : World) : (newRow T cells).run P w = .ok ⟨w.heap.size, 0, none⟩ { w with heap := w.heap.push (.cells cells T (0, 0)) } := by
  simp [newRow]
theorem newRow_sound [Den] {T : TypeId} {cs cs' : List Value} {v : Value} {c c' : Nat} {H' : Heap} {L : Lg} (h : newRowA T cs c H = .ok v c' H' L) (hr : HR P w0 F E H w) (hc : LR E cs cs') :
    ∃ E', E.le E' ∧ HR P w0 F E' H' { w with heap := w.heap.push (.cells cs'.toArray T (0, 0)) } ∧ VR E' v (.pointer (some ⟨w.heap.size, 0, none⟩)) := by
  unfold newRowA at h
  obtain ⟨u, c1, h1, l1, l2, hg0, h2, _⟩ := bind_ok.1 h
  obtain ⟨hg, rfl, rfl, rfl⟩ := guard_ok.1 hg0
  obtain ⟨j, c2, h3, l3, l4, hn, h4, _⟩ := bind_ok.1 h2
  obtain ⟨rfl, rfl, rfl, _⟩ := pure_ok.1 h4
  obtain ⟨rfl, rfl, hj, rfl, _⟩ := newA_inv hn
  obtain ⟨k1, k2⟩ := hr.newRow (T := T) (more := []) (cap := 0) hj hc hg (fun n _ => by omega)
  refine ⟨_, k1, by simpa using k2, ?_⟩
  have : Env.upd E j ⟨w.heap.size, 0, 0⟩ j = some ⟨w.heap.size, 0, 0⟩ := by simp [Env.upd]
  have hp := VR.ptr (o := 0) this
  simpa using hp
theorem fold_set (vs : List Value) : ∀ (off j : Nat) (cells : List Value), off + j + vs.length ≤ cells.length →
    ((vs.zipIdx j).foldl (fun (cs : Array Value) (p : Value × Nat) => cs.setIfInBounds (off + p.2) p.1) cells.toArray).toList = cells.take (off + j) ++ vs ++ cells.drop (off + j + vs.length) := by
  induction vs with
  | nil => intro off j cells _; simp
  | cons v vs ih =>
    intro off j cells h
    simp only [List.length_cons] at h
    simp only [List.zipIdx_cons, List.foldl_cons, List.setIfInBounds_toArray]
    have hl : off + j < cells.length := by omega
    have := ih off (j + 1) (cells.set (off + j) v) (by simp; omega)
    rw [this]
    have h1 : (cells.set (off + j) v).take (off + (j + 1)) = cells.take (off + j) ++ [v] := by
      rw [← Nat.add_assoc, List.take_succ_eq_append_getElem (by simp; omega)]
      simp [List.take_set_of_le]
    have h2 : (cells.set (off + j) v).drop (off + (j + 1) + vs.length) = cells.drop (off + j + (v :: vs).length) := by
      rw [List.drop_set_of_lt (by omega)]
      congr 1; simp; omega
    rw [h1, h2]; simp
theorem fill_sound [Den] {place : Nat → Option (Nat × Nat)} : ∀ {parts parts' : List (Nat × Value)} {cells cells' out : List Value}, fillA place cells parts = some out → LR E cells cells' →
    parts.map (·.1) = parts'.map (·.1) → LR E (parts.map (·.2)) (parts'.map (·.2)) → ∃ out', Instr.fill place cells'.toArray parts' = some out'.toArray ∧ LR E out out'
  | [], parts', cells, cells', out, h, hl, hi, hp => by
    cases parts' with
    | nil => simp only [fillA, Option.some.injEq] at h; subst h; exact ⟨cells', rfl, hl⟩
    | cons q qs => simp at hi
  | (i, v) :: rest, parts', cells, cells', out, h, hl, hi, hp => by
    cases parts' with
    | nil => simp at hi
    | cons q qs =>
      obtain ⟨i', v'⟩ := q
      simp only [List.map_cons, List.cons.injEq] at hi
      obtain ⟨rfl, hi⟩ := hi
      obtain ⟨y, ys, he, hv, hp'⟩ := LR.cons_inv hp
      simp only [List.map_cons, List.cons.injEq] at he
      obtain ⟨rfl, rfl⟩ := he
      simp only [fillA] at h
      have hsz : v'.cells.size = v.cells.size := by
        have := hv.cells.1; simpa using this.symm
      cases hpl : place i with
      | none => rw [hpl] at h; cases h
      | some os =>
        obtain ⟨off, size⟩ := os
        rw [hpl] at h
        simp only at h
        split at h
        · cases h
        · rename_i hcond
          simp only [ne_eq, Bool.or_eq_true, decide_eq_true_eq, not_or, Decidable.not_not, Nat.not_lt] at hcond
          obtain ⟨hc1, hc2⟩ := hcond
          have hl' : LR E (cells.take off ++ v.cells.toList ++ cells.drop (off + v.cells.size)) (cells'.take off ++ v'.cells.toList ++ cells'.drop (off + v'.cells.size)) := by
            rw [hsz]
            exact LR.append (LR.append (hl.take _) hv.cells) (hl.drop _)
          obtain ⟨out', ho, hlo⟩ := fill_sound h hl' hi hp'
          refine ⟨out', ?_, hlo⟩
          simp only [Instr.fill, hpl]
          rw [if_neg (by simp [hsz, hc1]; rw [← hc1]; have := hl.1; omega)]
          rw [← ho]
          congr 1
          apply Array.toList_inj.1
          have := fold_set v'.cells.toList off 0 cells' (by simp [hsz]; have := hl.1; omega)
          simp only [Nat.add_zero, Array.length_toList] at this
          rw [← this, ← Array.foldl_toList, Array.toList_zipIdx]
end
theorem beqS_eq {a b : Value} (h : beqS a b = true) : a = b := by
  unfold beqS at h
  split at h <;> (try simp only [Bool.and_eq_true, beq_iff_eq, decide_eq_true_eq, Nat.beq_eq, reduceCtorEq] at h) <;>
    first
    | rfl
    | exact h.elim
    | (simp_all; done)
    | (subst h; rfl)
    | (rename_i a b; cases a; cases b; simp only at h; subst h; rfl)
    | (obtain ⟨h1, h2⟩ := h; subst h1 h2; rfl)
    | (obtain ⟨⟨h1, h2⟩, h3⟩ := h; subst h1 h2 h3; rfl)
    | (obtain ⟨⟨⟨h1, h2⟩, h3⟩, h4⟩ := h; subst h1 h2 h3 h4; rfl)
theorem beqL_eq : ∀ {a b : List Value}, beqL a b = true → a = b
  | [], [], _ => rfl
  | [], _ :: _, h => by cases h
  | _ :: _, [], h => by cases h
  | a :: as, b :: bs, h => by
    simp only [beqL, Bool.and_eq_true] at h
    rw [beqS_eq h.1, beqL_eq h.2]
theorem beqV_eq {a b : Value} (h : beqV a b = true) : a = b := by
  unfold beqV at h
  split at h
  · exact congrArg Value.agg (Array.toList_inj.1 (beqL_eq h))
  · exact congrArg Value.tuple (Array.toList_inj.1 (beqL_eq h))
  · exact beqS_eq h
theorem beqVL_eq : ∀ {a b : List Value}, beqVL a b = true → a = b
  | [], [], _ => rfl
  | [], _ :: _, h => by cases h
  | _ :: _, [], h => by cases h
  | a :: as, b :: bs, h => by
    simp only [beqVL, Bool.and_eq_true] at h
    rw [beqV_eq h.1, beqVL_eq h.2]
end Go.Sx
namespace Go.Sx
section
variable {P : Program} {w0 : World} {F : Nat → Prop} {E : Env} {H : Heap} {w : World}
theorem run_places (w : World) : ∀ {fs : List Field} {ps : List (Nat × Nat)}, placesL P fs = some ps →
    (fs.mapM (fun f => do pure (f.offset, ← sizeOf f.type)) : Sem (List (Nat × Nat))).run P w = .ok ps w
  | [], ps, h => by simp only [placesL, Option.some.injEq] at h; subst h; rfl
  | f :: fs, ps, h => by
    simp only [placesL] at h
    split at h
    · rename_i n qs hn hq
      cases h
      have ih := run_places w hq
      simp only [List.mapM_cons, Sem.run_bind, run_size hn, Result.andThen_ok, Sem.run_pure, ih]
    · cases h
theorem run_placesA (w : World) {fs : Array Field} {ps : List (Nat × Nat)} (h : placesL P fs.toList = some ps) :
    (fs.mapM (fun f => do pure (f.offset, ← sizeOf f.type)) : Sem (Array (Nat × Nat))).run P w = .ok ps.toArray w := by
  rw [Array.mapM_eq_mapM_toList, Sem.run_map, run_places w h]; rfl
theorem build_sound [Den] {t : TypeId} {parts : List (Nat × Value)} {parts' : Array (Nat × Value)} {v : Value} (h : buildA P t parts = some v)
    (hi : parts.map (·.1) = parts'.toList.map (·.1)) (hp : LR E (parts.map (·.2)) (parts'.toList.map (·.2))) :
    ∃ v', (Instr.build t parts').run P w = .ok v' w ∧ VR E v v' := by
  unfold buildA at h
  split at h
  · cases h
  · rename_i z hz
    cases hcl : cleanB z with
    | false => rw [hcl] at h; simp at h
    | true =>
      rw [hcl] at h
      simp only [cond_true] at h
      have hzz := (VR.clean (E := E) hcl).cells
      split at h
      · rename_i fs hu
        split at h
        · rename_i ps hps
          split at h
          · rename_i cs hcs
            cases h
            obtain ⟨out', ho, hlo⟩ := fill_sound hcs hzz hi hp
            refine ⟨.agg out'.toArray, ?_, .agg_of (by simpa using hlo)⟩
            have ho' : Instr.fill (fun x => ps.toArray[x]?) z.cells parts'.toList = some out'.toArray := by
              rw [← ho]; simp
            simp only [Instr.build, Sem.run_bind, run_zero hz, Result.andThen_ok, run_underlying hu, run_placesA w hps, ho', Sem.run_pure]
          · cases h
        · cases h
      · rename_i n e hu
        split at h
        · rename_i m hm
          split at h
          · rename_i cs hcs
            cases h
            obtain ⟨out', ho, hlo⟩ := fill_sound hcs hzz hi hp
            refine ⟨.agg out'.toArray, ?_, .agg_of (by simpa using hlo)⟩
            simp only [Array.toArray_toList] at ho
            simp only [Instr.build, Sem.run_bind, run_zero hz, Result.andThen_ok, run_underlying hu, run_size hm, ho, Sem.run_pure]
          · cases h
        · cases h
      · cases h
theorem rep_eq (z : Array Value) (hn : 0 < z.size) : ∀ len : Nat, (List.range (len * z.size)).map (fun i => z[i % z.size]!) = repL z.toList len
  | 0 => by simp [repL]
  | len + 1 => by
    have ih := rep_eq z hn len
    rw [Nat.add_mul, Nat.one_mul, Nat.add_comm, List.range_add, List.map_append, repL]
    congr 1
    · apply List.ext_getElem
      · simp
      · intro i h1 h2
        simp at h1 h2
        simp [Nat.mod_eq_of_lt h1, h1]
    · rw [← ih, List.map_map]
      apply List.map_congr_left
      intro i _
      simp
theorem repLR [Den] {z z' : List Value} (h : LR E z z') : ∀ n, LR E (repL z n) (repL z' n)
  | 0 => LR.nil E
  | n + 1 => LR.append h (repLR h n)
theorem elem_under {t e : TypeId} (h : sliceElem P t = some e) : P.underlying t = some (.slice e) := by
  unfold sliceElem at h; split at h
  · rename_i hu; cases h; exact hu
  · cases h
theorem buildSlice_sound [Den] {t : TypeId} {len : Nat} {parts : List (Nat × Value)} {parts' : Array (Nat × Value)} {v : Value} {c c' : Nat} {H' : Heap} {L : Lg} (h : buildSliceA P t len parts c H = .ok v c' H' L)
    (hr : HR P w0 F E H w) (hi : parts.map (·.1) = parts'.toList.map (·.1)) (hp : LR E (parts.map (·.2)) (parts'.toList.map (·.2))) :
    ∃ v' w' E', (Instr.buildSlice t len parts').run P w = .ok v' w' ∧ E.le E' ∧ HR P w0 F E' H' w' ∧ VR E' v v' := by
  unfold buildSliceA at h
  obtain ⟨e, _, he, h⟩ := bopt h
  obtain ⟨n, _, hn, h⟩ := bopt h
  obtain ⟨_, hg, h⟩ := bguard h
  obtain ⟨z, _, hz, h⟩ := bopt h
  obtain ⟨_, hs, h⟩ := bguard h
  obtain ⟨cs, _, hf, h⟩ := bopt h
  obtain ⟨_, ho, h⟩ := bguard h
  obtain ⟨j, c1, h1, _, _, hj0, h, _⟩ := bind_ok.1 h
  obtain ⟨hv0, hc0, hh0, _⟩ := pure_ok.1 h
  obtain ⟨hj1, hj2, hj, hj3, _⟩ := newA_inv hj0
  subst hv0 hc0 hh0 hj1 hj2 hj3
  simp only [Bool.and_eq_true] at hg hs
  have hg1 := blt_iff.1 hg.1
  have hg2 := Nat.le_of_ble_eq_true hg.2
  have hs1 := Nat.eq_of_beq_eq_true hs.1
  have hzz := (VR.clean (E := E) hs.2).cells
  obtain ⟨out', hfo, hlo⟩ := fill_sound hf (repLR hzz len) hi hp
  have hu := elem_under he
  have hlen : cs.length = len * n := by
    have key : ∀ (parts : List (Nat × Value)) (cells out : List Value), fillA (fun i => some (i * n, n)) cells parts = some out → out.length = cells.length := by
      intro parts
      induction parts with
      | nil => intro cells out h; simp only [fillA, Option.some.injEq] at h; rw [h]
      | cons p ps ih =>
        intro cells out h
        obtain ⟨i, u⟩ := p
        simp only [fillA] at h
        split at h
        · cases h
        · rename_i hcond
          simp only [ne_eq, Bool.or_eq_true, decide_eq_true_eq, not_or, Decidable.not_not, Nat.not_lt] at hcond
          rw [ih _ _ h]; simp; omega
    rw [key _ _ _ hf]
    have : ∀ (l : List Value) (k : Nat), (repL l k).length = k * l.length := by
      intro l k
      induction k with
      | zero => simp [repL]
      | succ k ih => simp only [repL, List.length_append, ih, Nat.add_mul, Nat.one_mul]; omega
    rw [this]; simp [hs1]
  have hcap : ∀ m, sizeB P e = some m → len * m ≤ (out' ++ []).length := fun m hm => by
    rw [hn] at hm; cases hm
    have := hlo.1
    simp; omega
  obtain ⟨k1, k2⟩ := hr.newRow (T := e) (more := []) (cap := len) hj hlo ho hcap
  refine ⟨.slice (some ⟨w.heap.size, 0, none⟩) len len, _, _, ?_, k1, by simpa using k2, ?_⟩
  · have hcells : ((Array.range (len * n)).map fun i => z.cells[i % z.cells.size]!) = (repL z.cells.toList len).toArray := by
      apply Array.toList_inj.1
      rw [← rep_eq z.cells (by omega) len, hs1]
      simp
    by_cases h0 : len * n = 0
    · have hl0 : len = 0 := by
        rcases Nat.eq_zero_or_pos len with h | h
        · exact h
        · have := Nat.mul_pos h hg1
          omega
      subst hl0
      simp only [repL] at hfo
      have e0 : (Array.map (fun _ => (default : Value)) (Array.range 0)) = ([] : List Value).toArray := Array.toList_inj.1 (by simp)
      simp only [Instr.buildSlice, Sem.run_bind, run_underlying hu, Result.andThen_ok, run_size hn]
      simp [e0, hfo, run_newRow]
    · simp only [Instr.buildSlice, Sem.run_bind, run_underlying hu, Result.andThen_ok, run_size hn, Sem.run_ite, if_neg h0, Sem.run_pure, run_zero hz]
      rw [if_neg (by omega)]
      simp only [hcells, hfo]
      simp [run_newRow]
  · have hE : Env.upd E j ⟨w.heap.size, 0, len⟩ j = some ⟨w.heap.size, 0, len⟩ := by simp [Env.upd]
    have hk : len < HALF := by
      have : len ≤ 16777216 := Nat.le_trans (Nat.le_mul_of_pos_right len hg1) hg2
      unfold HALF; omega
    have hco : capOf ⟨w.heap.size, 0, len⟩ len = len := by unfold capOf; rw [if_pos hk]
    have hp := VR.sl (o := 0) (n := len) (c := len) (a' := ⟨w.heap.size, 0, none⟩) hE (by rw [hco]; exact Nat.le_refl _) (.inl rfl)
    rw [hco] at hp
    exact hp
theorem ptr_add [Den] {i o k : Nat} {e : EI} (h : E i = some e) : VR E (.pointer (some (Addr.add ⟨i, o, none⟩ k))) (.pointer (some (Addr.add ⟨e.blk, e.off + o, none⟩ k))) := by
  rw [add_eq, add_eq, Nat.add_assoc]; exact .ptr h
theorem fieldAddr_sound [Den] {s : TypeId} {x x' v : Value} {f : Nat} (h : fieldAddrA P s x f = some v) (hx : VR E x x') :
    ∃ v', (Instr.fieldAt s x' f).run P w = .ok v' w ∧ VR E v v' := by
  unfold fieldAddrA at h
  split at h
  · rename_i i o
    split at h
    · rename_i fs hu
      split at h
      · rename_i fd hfd
        split at h
        · rename_i n hn
          cases hb : Nat.beq n 0 with
          | true => rw [hb] at h; simp at h
          | false =>
            rw [hb] at h
            simp only [cond_false, Option.some.injEq] at h
            subst h
            have hn0 : n ≠ 0 := fun e => by rw [e] at hb; cases hb
            cases hx with
            | ptr he =>
              refine ⟨_, ?_, ptr_add he⟩
              simp only [Instr.fieldAt, Sem.run_bind, run_underlying hu, Result.andThen_ok, hfd, Instr.sureAddr, Sem.run_pure, fieldPlace, run_size hn, if_neg hn0]
        · cases h
      · cases h
    · cases h
  · cases h
theorem inB_iff {i : Int} {n : Nat} : inB i n = true ↔ 0 ≤ i ∧ i < (n : Int) := by simp [inB]
theorem indexAddr_sound [Den] {t : TypeId} {x x' j j' v : Value} (h : indexAddrA P t x j = some v) (hx : VR E x x') (hj : VR E j j') :
    ∃ v', (Instr.indexAt t x' j').run P w = .ok v' w ∧ VR E v v' := by
  unfold indexAddrA at h
  split at h
  · rename_i k q
    cases hj
    split at h
    · rename_i len el a hu
      split at h
      · rename_i n hn
        cases hb : inB q len with
        | false => rw [hb] at h; simp at h
        | true =>
          rw [hb] at h
          simp only [cond_true, Option.some.injEq] at h
          subst h
          have hq := inB_iff.1 hb
          cases hx with
          | ptr he =>
            refine ⟨_, ?_, ptr_add he⟩
            simp only [Instr.indexAt, asIntOf, Sem.run_bind, Sem.run_pure, Result.andThen_ok, run_underlying hu, Instr.sureAddr, hq, and_self, if_true, run_size hn]
      · cases h
    · rename_i el a len cap hu
      split at h
      · rename_i n hn
        cases hb : inB q len with
        | false => rw [hb] at h; simp at h
        | true =>
          rw [hb] at h
          simp only [cond_true, Option.some.injEq] at h
          subst h
          have hq := inB_iff.1 hb
          cases hx with
          | sl he hnc ha =>
            rename_i i o e a'
            have ha' : a' = ⟨e.blk, e.off + o, none⟩ := by
              rcases ha with h | h
              · exact h
              · omega
            subst ha'
            refine ⟨_, ?_, ptr_add he⟩
            simp only [Instr.indexAt, asIntOf, Sem.run_bind, Sem.run_pure, Result.andThen_ok, run_underlying hu, hq, and_self, if_true, run_size hn]
      · cases h
    · cases h
  · cases h
theorem part_sound [Den] {t : TypeId} {cs cs' : Array Value} {off : Nat} {v : Value} (h : partA P t cs off = some v) (hc : LR E cs.toList cs'.toList) :
    ∃ v', (part t cs' off).run P w = .ok v' w ∧ VR E v v' := by
  unfold partA at h
  split at h
  · rename_i n ha hn
    cases h
    refine ⟨.agg (cs'.extract off (off + n)), ?_, .agg_of ?_⟩
    · simp only [part, Sem.run_bind, run_agg ha, Result.andThen_ok, if_true, run_size hn, Sem.run_pure]
    · rw [Array.toList_extract, Array.toList_extract]
      simp only [List.extract_eq_take_drop]
      exact (hc.drop _).take _
  · rename_i n ha hn
    obtain ⟨y, hy, hv⟩ := hc.get (k := off) (x := v) (by simpa using h)
    refine ⟨y, ?_, hv⟩
    have hy' : cs'[off]? = some y := by simpa using hy
    simp only [part, Sem.run_bind, run_agg ha, Result.andThen_ok, Bool.false_eq_true, if_false, hy', Sem.run_pure]
  · cases h
theorem index_sound [Den] {t : TypeId} {x x' j j' v : Value} (h : indexA P t x j = some v) (hx : VR E x x') (hj : VR E j j') :
    ∃ v', (Instr.index t x' j').run P w = .ok v' w ∧ VR E v v' := by
  unfold indexA at h
  split at h
  · rename_i k q
    cases hj
    split at h
    · rename_i len el cs hu
      split at h
      · rename_i n hn
        cases hb : inB q len with
        | false => rw [hb] at h; simp at h
        | true =>
          rw [hb] at h
          simp only [cond_true] at h
          have hq := inB_iff.1 hb
          cases hx with
          | agg h1 h2 =>
            rename_i cs'
            obtain ⟨v', hv1, hv2⟩ := part_sound (w := w) h ⟨h1, h2⟩
            refine ⟨v', ?_, hv2⟩
            simp only [Instr.index, asIntOf, Sem.run_bind, Sem.run_pure, Result.andThen_ok, run_underlying hu, hq, and_self, if_true, run_size hn, hv1]
      · cases h
    · rename_i s hu
      cases hb : inB q s.size with
      | false => rw [hb] at h; simp at h
      | true =>
        rw [hb] at h
        simp only [cond_true] at h
        have hq := inB_iff.1 hb
        cases hx
        split at h
        · rename_i b hs
          cases h
          refine ⟨_, ?_, .int _ _⟩
          simp only [Instr.index, asIntOf, Sem.run_bind, Sem.run_pure, Result.andThen_ok, run_underlying hu, hq.1, if_true, hs]
        · cases h
    · cases h
  · cases h
theorem field_sound [Den] {t : TypeId} {x x' v : Value} {f : Nat} (h : fieldA P t x f = some v) (hx : VR E x x') : ∃ v', (Instr.field t x' f).run P w = .ok v' w ∧ VR E v v' := by
  unfold fieldA at h
  split at h
  · rename_i cs
    cases hx with
    | agg h1 h2 =>
      rename_i cs'
      split at h
      · rename_i fs hu
        split at h
        · rename_i fd hfd
          obtain ⟨v', hv1, hv2⟩ := part_sound (w := w) h ⟨h1, h2⟩
          refine ⟨v', ?_, hv2⟩
          simp only [Instr.field, Sem.run_bind, run_underlying hu, Result.andThen_ok, hfd, asAgg, Sem.run_pure, hv1]
        · cases h
      · cases h
  · cases h
end
end Go.Sx
namespace Go.Sx
section
variable {P : Program} {w0 : World} {F : Nat → Prop} {E : Env} {H : Heap} {w : World}
inductive OR [Den] (E : Env) : Option Value → Option Value → Prop
  | none : OR E none none
  | some {v v' : Value} (h : VR E v v') : OR E (some v) (some v')
theorem bound_run [Den] {y y' d n : Nat} {v v' : Value} {code : BoundsCode} (h : boundA y (some v) d = some n) (hv : VR E v v') (hy : y ≤ y') : (Instr.sliceBound v' y' code).run P w = .ok n w ∧ n ≤ y := by
  cases hv <;> simp only [boundA] at h <;> try (cases h; done)
  rename_i k i
  cases hd : decide (0 ≤ i ∧ i ≤ (y : Int)) with
  | false => rw [hd] at h; simp at h
  | true =>
    rw [hd] at h
    simp only [cond_true, Option.some.injEq] at h
    have hi := of_decide_eq_true hd
    subst h
    refine ⟨?_, by omega⟩
    simp only [Instr.sliceBound, asIntOf, Sem.run_bind, Sem.run_pure, Result.andThen_ok]
    rw [if_pos ⟨hi.1, by omega⟩]; rfl
theorem bounds_run [Den] {isS : Bool} {len cap cut m h l : Nat} {lo hi mx lo' hi' mx' : Option Value} (hm : boundA cut mx cut = some m) (hh : boundA m hi len = some h) (hl : boundA h lo 0 = some l)
    (no : (mx.isSome && !hi.isSome) = false) (hcut : cut ≤ cap) (ol : OR E lo lo') (oh : OR E hi hi') (om : OR E mx mx') (w : World) :
    (Instr.sliceBounds isS len cap lo' hi' mx').run P w = .ok (l, h, if mx.isSome then m else cap) w := by
  have low : ∀ code v, lo' = some v → (Instr.sliceBound v h code).run P w = .ok l w := by
    intro code v hv
    cases ol with
    | none => cases hv
    | some hvr => cases hv; exact (bound_run hl hvr (Nat.le_refl _)).1
  have low0 : lo' = none → l = 0 := by
    intro hv
    cases ol with
    | none => simp only [boundA, Option.some.injEq] at hl; exact hl.symm
    | some hvr => cases hv
  cases om with
  | none =>
    simp only [boundA, Option.some.injEq] at hm
    subst hm
    cases oh with
    | none =>
      simp only [boundA, Option.some.injEq] at hh
      subst hh
      cases hlo : lo' with
      | none => simp [Instr.sliceBounds, low0 hlo]
      | some v => simp [Instr.sliceBounds, low _ v hlo]
    | some hv =>
      have h1 := (bound_run (P := P) (w := w) (code := if isS then .sliceAcap else .sliceAlen) hh hv hcut).1
      cases hlo : lo' with
      | none => simp [Instr.sliceBounds, low0 hlo, h1]
      | some v => simp [Instr.sliceBounds, low _ v hlo, h1]
  | some hmv =>
    have h1 := (bound_run (P := P) (w := w) (code := if isS then .slice3Acap else .slice3Alen) hm hmv hcut).1
    cases oh with
    | none => simp at no
    | some hv =>
      have h3 := (bound_run (P := P) (w := w) (code := .slice3B) hh hv (Nat.le_refl _)).1
      cases hlo : lo' with
      | none => simp [Instr.sliceBounds, low0 hlo, h1, h3]
      | some v => simp [Instr.sliceBounds, low _ v hlo, h1, h3]
theorem bound_le {y d n : Nat} {o : Option Value} (h : boundA y o d = some n) (hd : d ≤ y) : n ≤ y := by
  cases o with
  | none => simp only [boundA, Option.some.injEq] at h; omega
  | some v =>
    cases v <;> simp only [boundA] at h <;> try (cases h; done)
    rename_i k i
    cases hdd : decide (0 ≤ i ∧ i ≤ (y : Int)) with
    | false => rw [hdd] at h; simp at h
    | true =>
      rw [hdd] at h
      simp only [cond_true, Option.some.injEq] at h
      have hi := of_decide_eq_true hdd
      omega
theorem bound_le' {y d n : Nat} {u : Value} (h : boundA y (some u) d = some n) : n ≤ y := by
  cases u <;> simp only [boundA] at h <;> try (cases h; done)
  rename_i k q
  cases hdd : decide (0 ≤ q ∧ q ≤ (y : Int)) with
  | false => rw [hdd] at h; simp at h
  | true =>
    rw [hdd] at h
    simp only [cond_true, Option.some.injEq] at h
    have := of_decide_eq_true hdd
    omega
theorem bound_zero {n : Nat} {o : Option Value} (h : boundA 0 o 0 = some n) : n = 0 := by have := bound_le h (Nat.le_refl 0); omega
theorem slice_sound [Den] {t : TypeId} {x x' v : Value} {lo hi mx lo' hi' mx' : Option Value} (h : sliceA P t x lo hi mx = some v) (hx : VR E x x') (ol : OR E lo lo') (oh : OR E hi hi') (om : OR E mx mx') (w : World) :
    ∃ v', (Instr.sliceAt t x' lo' hi' mx').run P w = .ok v' w ∧ VR E v v' := by
  unfold sliceA at h
  split at h
  · -- a string
    rename_i s hu
    split at h
    · rename_i h1 hb1
      split at h
      · rename_i l hl
        cases h
        cases hx
        cases om
        have hbr := bounds_run (P := P) (isS := false) (len := s.size) (cap := s.size) (cut := s.size) (m := s.size) (mx := none) rfl hb1 hl rfl (Nat.le_refl _) ol oh OR.none w
        refine ⟨_, ?_, .str _⟩
        simp [Instr.sliceAt, run_underlying hu, Instr.slice, hbr]
      · cases h
    · cases h
  · -- a nil slice
    rename_i e c1 c2 hu
    cases hno : (mx.isSome && !hi.isSome) with
    | true => rw [hno] at h; simp at h
    | false =>
      rw [hno] at h
      simp only [cond_false] at h
      split at h
      · rename_i a b c hb1 hb2 hb3
        split at h
        · rename_i n hn
          have za := bound_zero hb1
          have zb := bound_zero hb2
          have zc := bound_zero hb3
          subst za zb zc
          have hbr := bounds_run (P := P) (isS := true) (len := 0) (cap := 0) (cut := 0) hb3 hb1 hb2 hno (Nat.le_refl _) ol oh om w
          cases hx
          · cases h
            refine ⟨.slice none 0 0, ?_, .nilS⟩
            simp [Instr.sliceAt, run_underlying hu, Instr.slice, hbr, run_size hn]
          · rename_i bb
            cases h
            refine ⟨.slice bb 0 0, ?_, .weS bb⟩
            cases bb <;> simp [Instr.sliceAt, run_underlying hu, Instr.slice, hbr, run_size hn]
          · cases h
        · cases h
      · cases h
  · -- a slice
    rename_i e a len cap hu
    simp only at h
    cases hx with
    | sl he hnc ha =>
      rename_i i o ei a'
      split at h
      · rename_i n m hn hm
        split at h
        · rename_i hh hb1
          split at h
          · rename_i l hb2
            have hcut : (bif knownCap cap then cap else len) ≤ capOf ei cap := by
              cases hk : knownCap cap with
              | true =>
                have := blt_iff.1 hk
                simp only [cond_true, capOf]; rw [if_pos this]; exact Nat.le_refl _
              | false => simpa using hnc
            cases hno : (mx.isSome && !hi.isSome) with
            | true => rw [hno] at h; simp at h
            | false =>
              rw [hno] at h
              simp only [cond_false] at h
              have hbr := bounds_run (P := P) (isS := true) (len := len) (cap := capOf ei cap) hm hb1 hb2 hno hcut ol oh om w
              have hlh : l ≤ hh := bound_le hb2 (Nat.zero_le _)
              have hlen : len ≤ (bif knownCap cap then cap else len) := by
                cases hk : knownCap cap with
                | true =>
                  have h1 := blt_iff.1 hk
                  have h2 : capOf ei cap = cap := by unfold capOf; rw [if_pos h1]
                  simp only [cond_true]; omega
                | false => simp
              have hhm : hh ≤ m := by
                cases hi with
                | none =>
                  cases mx with
                  | none => simp only [boundA, Option.some.injEq] at hm hb1; omega
                  | some u => simp at hno
                | some u => exact bound_le' hb1
              have hmcut : m ≤ (bif knownCap cap then cap else len) := bound_le hm (Nat.le_refl _)
              cases hkn : (mx.isSome || knownCap cap) with
              | true =>
                rw [hkn] at h
                simp only [cond_true] at h
                cases hkm : knownCap m with
                | false => rw [hkm] at h; simp at h
                | true =>
                  rw [hkm] at h
                  simp only [cond_true, Option.some.injEq] at h
                  subst h
                  have hk := blt_iff.1 hkm
                  have hml : (if mx.isSome then m else capOf ei cap) = m := by
                    cases mx with
                    | none =>
                      simp only [Option.isSome_none, Bool.false_or] at hkn
                      have h1 := blt_iff.1 hkn
                      simp only [boundA, Option.some.injEq, hkn, cond_true] at hm
                      simp only [Option.isSome_none, Bool.false_eq_true, if_false]
                      unfold capOf; rw [if_pos h1]; exact hm
                    | some v => rfl
                  rw [hml] at hbr
                  have hcap : capOf ei (m - l) = m - l := by unfold capOf; rw [if_pos (by omega)]
                  refine ⟨.slice (some (if m = l then a' else Addr.add a' (l * n))) (hh - l) (m - l), ?_, ?_⟩
                  · by_cases hml2 : m = l <;> simp [Instr.sliceAt, Instr.slice, run_underlying hu, hbr, run_size hn, hml2]
                  · have hz : ∀ {k : Nat} {a2 : Addr}, (a2 = ⟨ei.blk, ei.off + (o + k), none⟩ ∨ m = 0) → VR E (.slice (some ⟨i, o + k, none⟩) (hh - l) (m - l)) (.slice (some a2) (hh - l) (m - l)) := by
                      intro k a2 h2
                      have hp := VR.sl (o := o + k) (n := hh - l) (c := m - l) (a' := a2) he (by rw [hcap]; omega) (by rcases h2 with h2 | h2; exact .inl h2; right; rw [hcap]; omega)
                      rw [hcap] at hp; exact hp
                    by_cases hml2 : m = l
                    · simp only [if_pos hml2]
                      have := hz (k := 0) (a2 := a') (by rcases ha with ha | ha; exact .inl ha; exact .inr (by omega))
                      simpa using this
                    · simp only [hml2, if_false, add_eq]
                      refine hz ?_
                      rcases ha with ha | ha
                      · left; rw [ha, add_eq, Nat.add_assoc]
                      · exact .inr (by omega)
              | false =>
                rw [hkn] at h
                simp only [cond_false] at h
                cases hgg : (Nat.ble (HALF + l) cap && Nat.ble cap INF) with
                | false => rw [hgg] at h; simp at h
                | true =>
                  rw [hgg] at h
                  simp only [cond_true, Option.some.injEq] at h
                  simp only [Bool.and_eq_true] at hgg
                  have g1 := Nat.le_of_ble_eq_true hgg.1
                  have g2 := Nat.le_of_ble_eq_true hgg.2
                  subst h
                  simp only [Bool.or_eq_false_iff] at hkn
                  have hml : (if mx.isSome then m else capOf ei cap) = capOf ei cap := by rw [hkn.1]; simp
                  rw [hml] at hbr
                  have hc1 : capOf ei cap = ei.cap - (INF - cap) := by unfold capOf; rw [if_neg (by omega)]
                  have hc2 : capOf ei (cap - l) = capOf ei cap - l := by
                    rw [hc1]; unfold capOf; rw [if_neg (by omega)]; omega
                  rw [hkn.2] at hmcut
                  simp only [cond_false] at hmcut
                  refine ⟨.slice (some (if capOf ei cap = l then a' else Addr.add a' (l * n))) (hh - l) (capOf ei cap - l), ?_, ?_⟩
                  · simp only [Instr.sliceAt, Sem.run_bind, run_underlying hu, Result.andThen_ok, Instr.slice, hbr, run_size hn, Sem.run_pure]
                    by_cases hml2 : capOf ei cap = l <;> simp [hml2]
                  · rw [add_eq, ← hc2]
                    refine VR.sl he (by rw [hc2]; omega) ?_
                    by_cases hml2 : capOf ei cap = l
                    · right; rw [hc2]; omega
                    · simp only [hml2, if_false]
                      rcases ha with ha | ha
                      · left; rw [ha, add_eq, Nat.add_assoc]
                      · right; rw [hc2]; omega
          · cases h
        · cases h
      · cases h
  · -- an array
    rename_i len e a hu
    cases hx with
    | ptr he =>
      rename_i i o ei
      split at h
      · rename_i n m hn hm
        split at h
        · rename_i hh hb1
          split at h
          · rename_i l hb2
            cases hg : ((mx.isSome && !hi.isSome) || !(knownCap m)) with
            | true => rw [hg] at h; simp at h
            | false =>
              rw [hg] at h
              simp only [cond_false, Option.some.injEq] at h
              simp only [Bool.or_eq_false_iff, Bool.not_eq_false'] at hg
              subst h
              have hbr := bounds_run (P := P) (isS := false) (len := len) (cap := len) hm hb1 hb2 (by simpa using hg.1) (Nat.le_refl _) ol oh om w
              have hlh : l ≤ hh := bound_le hb2 (Nat.zero_le _)
              have hml : (if mx.isSome then m else len) = m := by
                cases mx with
                | none => simp only [boundA, Option.some.injEq] at hm; simp [hm]
                | some v => rfl
              rw [hml] at hbr
              have hk := blt_iff.1 hg.2
              have hhm : hh ≤ m := by
                cases hi with
                | none =>
                  cases mx with
                  | none => simp only [boundA, Option.some.injEq] at hm hb1; omega
                  | some u => simp at hg
                | some u => exact bound_le' hb1
              have hcap : capOf ei (m - l) = m - l := by unfold capOf; rw [if_pos (by omega)]
              refine ⟨.slice (some (if m = l then ⟨ei.blk, ei.off + o, none⟩ else Addr.add ⟨ei.blk, ei.off + o, none⟩ (l * n))) (hh - l) (m - l), ?_, ?_⟩
              · simp [Instr.sliceAt, run_underlying hu, Instr.sureAddr, hbr, run_size hn]
              · by_cases hml : m = l
                · simp only [hml, if_true]
                  have hp := VR.sl (o := o) (n := hh - l) (c := m - l) (a' := ⟨ei.blk, ei.off + o, none⟩) he (by rw [hcap]; omega) (.inl rfl)
                  rw [hcap, hml] at hp; exact hp
                · simp only [hml, if_false, add_eq]
                  have hp := VR.sl (o := o + l * n) (n := hh - l) (c := m - l) (a' := ⟨ei.blk, ei.off + o + l * n, none⟩) he (by rw [hcap]; omega) (.inl (by rw [Nat.add_assoc]))
                  rw [hcap] at hp; exact hp
          · cases h
        · cases h
      · cases h
  · cases h
end
end Go.Sx
namespace Go.Sx
section
variable {P : Program} {w0 : World} {F : Nat → Prop} {E : Env} {H : Heap} {w : World}
theorem bytes_clean (l : List UInt8) : (l.map fun b => Value.int .u8 (b.toNat : Int)).all cleanS = true := by
  rw [List.all_eq_true]
  intro v hv
  obtain ⟨b, _, rfl⟩ := List.mem_map.1 hv
  rfl
theorem first_none {P : Program} (b : Option Addr) (size c : Nat) (w : World) : (Builtin.firstCells size 0 (.slice b 0 c)).run P w = .ok ([] : List Value).toArray w := by
  cases b <;> simp only [Builtin.firstCells, Nat.zero_mul] <;> rfl
theorem src_sound [Den] {n m size : Nat} {x x' : Value} {new : List Value} {c c' : Nat} {H' : Heap} {L : Lg} (h : srcCells n size x c H = .ok new c' H' L) (hr : HR P w0 F E H w) (hx : VR E x x') (hl : lenA x = some m) (hnm : n ≤ m) :
    c' = c ∧ H' = H ∧ new.length = n * size ∧ ∃ new', LR E new new' ∧ ∀ w', w'.heap = w.heap → (Builtin.firstCells size n x').run P w' = .ok new'.toArray w' := by
  unfold srcCells at h
  simp only [rdB_eq] at h
  split at h
  · rename_i i o m cp
    cases hx with
    | sl he hnc ha =>
      rename_i e a'
      obtain ⟨vs', k1, _, k3⟩ := rdN_sound h hr he
      obtain ⟨rfl, rfl, hlen⟩ := rdN_inv h
      simp only [lenA, Option.some.injEq] at hl
      refine ⟨rfl, rfl, hlen, vs', k1, fun w' hw' => ?_⟩
      have hlen' : vs'.length = n * size := by rw [← k1.1]; exact hlen
      simp only [Builtin.firstCells]
      rw [← hlen']
      rcases ha with ha | ha
      · subst ha; exact run_cells fun j v hj => by have := k3 j v hj; simp only [World.cell?, hw'] at *; exact this
      · have : vs'.length = 0 := by rw [hlen', show n = 0 by omega, Nat.zero_mul]
        have hv : vs' = [] := List.eq_nil_of_length_eq_zero this
        subst hv
        rfl
  · rename_i m cp
    cases hx with
    | nilS =>
      obtain ⟨rfl, rfl, rfl, _⟩ := pure_ok.1 h
      simp only [lenA, Option.some.injEq] at hl
      have : n = 0 := by omega
      subst this
      exact ⟨rfl, rfl, by simp, [], LR.nil E, fun w' _ => rfl⟩
    | weS b =>
      obtain ⟨rfl, rfl, rfl, _⟩ := pure_ok.1 h
      simp only [lenA, Option.some.injEq] at hl
      have : n = 0 := by omega
      subst this
      exact ⟨rfl, rfl, by simp, [], LR.nil E, fun w' _ => first_none b size 0 w'⟩
    | anS b c =>
      obtain ⟨rfl, rfl, rfl, _⟩ := pure_ok.1 h
      simp only [lenA, Option.some.injEq] at hl
      have : n = 0 := by omega
      subst this
      exact ⟨rfl, rfl, by simp, [], LR.nil E, fun w' _ => first_none b size c w'⟩
  · rename_i s
    cases hx
    cases hb : Nat.beq size 1 with
    | false => rw [hb] at h; simp only [cond_false] at h; exact (bad_ok.1 h).elim
    | true =>
      rw [hb] at h
      simp only [cond_true] at h
      have h1 := Nat.eq_of_beq_eq_true hb
      subst h1
      obtain ⟨rfl, rfl, rfl, _⟩ := pure_ok.1 h
      simp only [lenA, Option.some.injEq] at hl
      refine ⟨rfl, rfl, ?_, _, LR.cleanL (bytes_clean _), fun w' _ => ?_⟩
      · rw [List.length_map, Array.length_toList, Nat.mul_one]
        show (s.extract 0 n).size = n
        simp
        omega
      · simp only [Builtin.firstCells, Sem.run_pure]
        congr 1
        apply Array.toList_inj.1
        rw [Array.toList_map]
  · exact (bad_ok.1 h).elim
theorem HR.adopt [Den] (hr : HR P w0 F E H w) {j : Nat} {T : TypeId} {cs : List Value} {cells : Array Value} {e : EI} {w' : World} (hj : H.get j = none)
    (hfree : ∀ i o x, H.get i = some o → live o = true → E i = some x → x.blk ≠ e.blk) (hown : w0.heap.size ≤ e.blk ∨ F e.blk)
    (hk : w'.os = w.os) (hk2 : w'.tape = w.tape) (hk3 : w'.output = w.output) (hs : w'.heap.size = w.heap.size) (hb : ∀ b, b ≠ e.blk → w'.heap[b]? = w.heap[b]?)
    (hc : w'.heap[e.blk]? = some (.cells cells T (0, 0))) (hrow : RowR P (E.upd j e) e T (mkCells cs) cells) :
    E.le (E.upd j e) ∧ HR P w0 F (E.upd j e) (H.set j (.row T (mkCells cs) false)) w' := by
  have hE : E j = none := by
    cases h : E j with
    | none => rfl
    | some e => exact absurd hj (hr.dom j e h)
  have hle : E.le (E.upd j e) := Env.le_upd hE
  have hs2 : ∀ k x, E.upd j e k = some x → (k = j ∧ x = e) ∨ (k ≠ j ∧ E k = some x) := fun k x hk => by
    unfold Env.upd at hk
    by_cases hkj : k = j
    · simp [hkj] at hk; exact .inl ⟨hkj, hk.symm⟩
    · simp [hkj] at hk; exact .inr ⟨hkj, hk⟩
  refine ⟨hle, ⟨⟨hk.trans hr.keeps.os, hk2.trans hr.keeps.tape, hk3.trans hr.keeps.output, by rw [hs]; exact hr.keeps.size, fun k hlt hF => ?_⟩, fun i x hi => ?_, fun i p hi => ?_, fun i m p q x y hne hi hm hlp hlq hw hx hy => ?_, fun i p x hi hw hx => ?_⟩⟩
  · have hne : k ≠ e.blk := fun hke => by
      rcases hown with h | h
      · omega
      · exact hF (hke ▸ h)
    rw [hb k hne]; exact hr.keeps.block k hlt hF
  · rcases hs2 i x hi with ⟨rfl, _⟩ | ⟨h1, h2⟩
    · rw [Tr.get_set_self]; simp
    · rw [Tr.get_set_ne _ _ h1]; exact hr.dom i x h2
  · by_cases hij : i = j
    · subst hij; rw [Tr.get_set_self] at hi; cases hi
      exact ⟨e, cells, by simp [Env.upd], hc, hrow⟩
    · rw [Tr.get_set_ne _ _ hij] at hi
      have hq := hr.obj i p hi
      have hun : E.upd j e i = E i := by unfold Env.upd; rw [if_neg hij]
      have hq' := ObjR.mono hle (fun hn => hun.trans hn) hq
      cases p with
      | row T cs ro =>
        obtain ⟨x, cells, h1, h2, h3⟩ := hq
        obtain ⟨x', cells', k1, k2, k3⟩ := hq'
        have : E.upd j e i = some x := hle _ _ h1
        rw [this] at k1; cases k1
        exact ⟨x, cells', this, k2.congr (hb _ (hfree i _ x hi rfl h1)), k3⟩
      | map es =>
        obtain ⟨x, ents, clock, h1, h2, h3⟩ := hq
        exact ⟨x, ents, clock, hle _ _ h1, by rw [hb _ (hfree i _ x hi rfl h1)]; exact h2, h3.mono hle⟩
      | loop st pe f ps a b d =>
        obtain ⟨x, l, h1, h2, h3, h4, h5, h6, h7, h8, ed, h9, h10⟩ := hq
        exact ⟨x, l, hle _ _ h1, by rw [hb _ (hfree i _ x hi rfl h1)]; exact h2, h3, h4, h5, h6, h7, h8.mono hle, ed, hle _ _ h9, h10⟩
      | defd =>
        obtain ⟨x, h1, h2⟩ := hq
        exact ⟨x, hle _ _ h1, by rw [hb _ (hfree i _ x hi rfl h1)]; exact h2⟩
      | orow T2 j2 ro2 =>
        obtain ⟨x, cells, h1, h2, h3⟩ := hq
        exact ⟨x, cells, hle _ _ h1, h2.congr (hb _ (hfree i _ x hi rfl h1)), h3⟩
      | mrow T2 j2 ro2 =>
        rcases hq with ⟨h1, h2⟩ | ⟨x, cells, h1, h2, h3⟩
        · exact .inl ⟨hun.trans h1, h2⟩
        · exact .inr ⟨x, cells, hun.trans h1, h2.congr (hb _ (hfree i _ x hi rfl h1)), h3⟩
      | dead => trivial
  · rcases hs2 i x hx with ⟨rfl, rfl⟩ | ⟨h1, h2⟩ <;> rcases hs2 m y hy with ⟨rfl, rfl⟩ | ⟨h3, h4⟩
    · exact absurd rfl hne
    · rw [Tr.get_set_ne _ _ h3] at hm
      exact Ne.symm (hfree m q y hm hlq h4)
    · rw [Tr.get_set_ne _ _ h1] at hi
      exact hfree i p x hi hlp h2
    · rw [Tr.get_set_ne _ _ h1] at hi
      rw [Tr.get_set_ne _ _ h3] at hm
      exact hr.inj i m p q x y hne hi hm hlp hlq hw h2 h4
  · rcases hs2 i x hx with ⟨rfl, rfl⟩ | ⟨h1, h2⟩
    · exact hown
    · rw [Tr.get_set_ne _ _ h1] at hi
      exact hr.own i p x hi hw h2
theorem HR.kill [Den] (hr : HR P w0 F E H w) {i : Nat} {o : AObj} {e : EI} (hi : H.get i = some o) (hl : live o = true) (hw : writable o = true) (he : E i = some e) : HR P w0 F E (H.set i .dead) w :=
  hr.turn hi hl hw he rfl rfl rfl rfl (fun _ _ => rfl) trivial
theorem info_inv {i c c' : Nat} {r : TypeId × Nat × Bool} {H' : Heap} {L : Lg} (h : info i c H = .ok r c' H' L) : c' = c ∧ H' = H ∧ ∃ T cs ro, H.get i = some (.row T cs ro) ∧ r = (T, cs.len, ro) := by
  unfold info at h
  split at h
  · rename_i T cs ro hi; cases h; exact ⟨rfl, rfl, T, cs, ro, hi, rfl⟩
  · cases h
theorem killA_inv {i c c' : Nat} {H' : Heap} {L : Lg} (h : killA i c H = .ok () c' H' L) : c' = c ∧ H' = H.set i .dead ∧ ∃ T cs, H.get i = some (.row T cs false) := by
  unfold killA at h
  split at h
  · rename_i T cs hi; cases h; exact ⟨rfl, rfl, T, cs, hi⟩
  · cases h
theorem growA_inv {i c j c' : Nat} {T : TypeId} {new : List Value} {H H' : Heap} {L : Lg} (h : growA i T new c H = .ok j c' H' L) :
    j = c ∧ c' = c + 1 ∧ L = .app (.one (.row i true)) (.one (.row c true)) ∧ ∃ cs, H.get i = some (.row T cs false) ∧ H.get c = none ∧ H' = (H.set i .dead).set c (.row T (cs.app new) false) := by
  unfold growA at h
  split at h
  · rename_i T' cs hi
    split at h
    · rename_i h2
      cases hb : Nat.beq T' T with
      | false => rw [hb] at h; cases h
      | true =>
        rw [hb] at h
        have := Nat.eq_of_beq_eq_true hb
        subst this
        cases h
        exact ⟨rfl, rfl, rfl, cs, hi, h2, rfl⟩
    · cases h
  · cases h
theorem isInt_false {t : TypeId} (h : isIntT P t = false) (h2 : (P.underlying t).isSome = true) (w : World) : (do pure ((← underlying t) matches .int _) : Sem Bool).run P w = .ok false w := by
  cases hu : P.underlying t with
  | none => rw [hu] at h2; simp at h2
  | some d =>
    unfold isIntT at h
    rw [hu] at h
    cases d <;> simp at h <;> simp [run_underlying hu]
theorem run_len [Den] {x x' : Value} {n : Nat} (h : lenA x = some n) (hx : VR E x x') (w : World) : (Builtin.lenOf x').run P w = .ok n w := by
  cases hx <;> simp only [lenA, Option.some.injEq, reduceCtorEq] at h <;> subst h <;> rfl
def nonInt : TypeDesc → Prop
  | .int _ => False
  | _ => True
theorem nonInt_of {t : TypeId} (h : isIntT P t = false) (h2 : (P.underlying t).isSome = true) : ∃ d, P.underlying t = some d ∧ nonInt d := by
  cases hu : P.underlying t with
  | none => rw [hu] at h2; simp at h2
  | some d =>
    unfold isIntT at h
    rw [hu] at h
    refine ⟨d, rfl, ?_⟩
    cases d <;> first | trivial | (simp at h; done)
theorem pure_false {α : Type} {b : Bool} (hb : b = false) (K : Bool → World → Result α) (w : World) :
    ((Pure.pure b : Sem Bool).run P w).andThen K = K false w := by rw [hb]; rfl
theorem run_append_fits {st xt ty e : TypeId} {size n sLen cap : Nat} {a : Addr} {x' : Value} {new' : List Value} {w1 : World} (hu : P.underlying st = some (.slice e)) (hsz : sizeB P e = some size)
    (g2 : isIntT P xt = false) (g3 : (P.underlying xt).isSome = true) (hlen : (Builtin.lenOf x').run P w = .ok n w) (hfit : sLen + n ≤ cap)
    (hnew : (Builtin.firstCells size n x').run P w = .ok new'.toArray w) (hst : (storeCells (a.add (sLen * size)) new').run P w = .ok () w1) :
    (Builtin.append_ #[st, xt] ty #[.slice (some a) sLen cap, x']).run P w = .ok (.slice (some a) (sLen + n) cap) w1 := by
  obtain ⟨d, hd, hni⟩ := nonInt_of g2 g3
  have hs1 := run_size hsz w
  unfold Builtin.append_
  simp only [List.getElem?_toArray, List.getElem?_cons_zero, List.getElem?_cons_succ]
  rw [Sem.run_bind, run_underlying hu, Result.andThen_ok]
  simp only []
  rw [Sem.run_bind, hs1, Result.andThen_ok, Sem.run_bind, run_underlying hd, Result.andThen_ok, Sem.run_bind,
    pure_false (by cases d <;> first | rfl | exact hni.elim)]
  simp only [Bool.false_eq_true, if_false, Sem.run_bind, hlen, Result.andThen_ok, Sem.run_ite, if_pos hfit, Bool.not_false, if_true, hnew, hst, Sem.run_pure]
theorem run_append_none {st xt ty e : TypeId} {size : Nat} {x' : Value} {new' : List Value} (hu : P.underlying st = some (.slice e)) (hsz : sizeB P e = some size)
    (g2 : isIntT P xt = false) (g3 : (P.underlying xt).isSome = true) (hlen : (Builtin.lenOf x').run P w = .ok 0 w)
    (hnew : (Builtin.firstCells size 0 x').run P w = .ok new'.toArray w) :
    (Builtin.append_ #[st, xt] ty #[.slice none 0 0, x']).run P w = .ok (.slice none 0 0) w := by
  obtain ⟨d, hd, hni⟩ := nonInt_of g2 g3
  have hs1 := run_size hsz w
  unfold Builtin.append_
  simp only [List.getElem?_toArray, List.getElem?_cons_zero, List.getElem?_cons_succ]
  rw [Sem.run_bind, run_underlying hu, Result.andThen_ok]
  simp only []
  rw [Sem.run_bind, hs1, Result.andThen_ok, Sem.run_bind, run_underlying hd, Result.andThen_ok, Sem.run_bind,
    pure_false (by cases d <;> first | rfl | exact hni.elim)]
  simp only [Bool.false_eq_true, if_false, Sem.run_bind, hlen, Result.andThen_ok, Sem.run_ite, Nat.zero_add, Nat.le_refl, Bool.not_false, if_true, hnew, Sem.run_pure]
theorem run_append_none2 {cc : Nat} {st xt ty e : TypeId} {size : Nat} {x' : Value} {new' : List Value} (hu : P.underlying st = some (.slice e)) (hsz : sizeB P e = some size)
    (g2 : isIntT P xt = false) (g3 : (P.underlying xt).isSome = true) (hlen : (Builtin.lenOf x').run P w = .ok 0 w)
    (hnew : (Builtin.firstCells size 0 x').run P w = .ok new'.toArray w) :
    (Builtin.append_ #[st, xt] ty #[.slice none 0 cc, x']).run P w = .ok (.slice none 0 cc) w := by
  obtain ⟨d, hd, hni⟩ := nonInt_of g2 g3
  have hs1 := run_size hsz w
  unfold Builtin.append_
  simp only [List.getElem?_toArray, List.getElem?_cons_zero, List.getElem?_cons_succ]
  rw [Sem.run_bind, run_underlying hu, Result.andThen_ok]
  simp only []
  rw [Sem.run_bind, hs1, Result.andThen_ok, Sem.run_bind, run_underlying hd, Result.andThen_ok, Sem.run_bind,
    pure_false (by cases d <;> first | rfl | exact hni.elim)]
  simp only [Bool.false_eq_true, if_false, Sem.run_bind, hlen, Result.andThen_ok, Sem.run_ite, Nat.zero_add, Nat.zero_le, Bool.not_false, if_true, hnew, Sem.run_pure]
theorem run_append_grows {st xt ty e : TypeId} {size bytes n sLen cap : Nat} {base' : Option Addr} {x' z : Value} {new' old' : List Value} (hu : P.underlying st = some (.slice e)) (hsz : sizeB P e = some size)
    (hby : bytesB P e = some bytes) (hz : zeroB P e = some z) (hzs : z.cells.size = size)
    (g2 : isIntT P xt = false) (g3 : (P.underlying xt).isSome = true) (hlen : (Builtin.lenOf x').run P w = .ok n w) (hfit : cap < sLen + n) (hb1 : (sLen + n) * bytes ≤ 140737488355328) (hb2 : sLen + n ≤ 9223372036854775807)
    (hnew : ∀ w', w'.heap = w.heap → (Builtin.firstCells size n x').run P w' = .ok new'.toArray w') (hold : ∀ w', w'.heap = w.heap → (Builtin.firstCells size sLen (.slice base' sLen cap)).run P w' = .ok old'.toArray w') :
    ∃ (newCap : Nat) (rest : List Value) (d : Nat), sLen + n ≤ newCap ∧ rest.length = (newCap - (sLen + n)) * size ∧
      (Builtin.append_ #[st, xt] ty #[.slice base' sLen cap, x']).run P w = .ok (.slice (some ⟨w.heap.size, 0, none⟩) (sLen + n) newCap) { w with heap := w.heap.push (.cells (old' ++ new' ++ rest).toArray e (0, 0)), drawn := d } := by
  obtain ⟨d, hd, hni⟩ := nonInt_of g2 g3
  have hs1 := run_size hsz w
  obtain ⟨ib, hib, hibb⟩ := bytes_info hby
  have hbound := growslice_fits hfit hb1
  have hnot : ¬ (sLen + n ≤ cap) := by omega
  have hmax : ¬ (((sLen + n : Nat) : Int) > IntKind.i64.max) := by
    have : IntKind.i64.max = 9223372036854775807 := by decide
    rw [this]; omega
  have hnot2 : ¬ (Builtin.nextslicecap (sLen + n) cap * bytes > 2 ^ 48) := by
    have : (2 : Nat) ^ 48 = 281474976710656 := by decide
    rw [this]; omega
  generalize hq : (Question.appendCap (sLen + n) cap e).cut (w.tape w.drawn (.appendCap (sLen + n) cap e)) = q
  have hq2 : sLen + n ≤ q := by rw [← hq]; simp only [Question.cut]; omega
  have hw1 : ∀ (w' : World), (typeInfo e).run P w' = .ok ib w' := fun w' => run_info hib w'
  have hz1 : ∀ (w' : World), (zeroValue e).run P w' = .ok z w' := fun w' => run_zero hz w'
  have hn1 := hnew { w with drawn := w.drawn + 1 } rfl
  have ho1 := hold { w with drawn := w.drawn + 1 } rfl
  have hch : (choose (.appendCap (sLen + n) cap e)).run P w = .ok q { w with drawn := w.drawn + 1 } := by
    rw [run_choose, ← hq]; rfl
  refine ⟨q, (Builtin.zeroCells z.cells (q - (sLen + n))).toList, w.drawn + 1, hq2, ?_, ?_⟩
  · simp [Builtin.zeroCells, hzs]
  · have happ : (old' ++ new' ++ (Builtin.zeroCells z.cells (q - (sLen + n))).toList).toArray = old'.toArray ++ new'.toArray ++ Builtin.zeroCells z.cells (q - (sLen + n)) := by
      apply Array.toList_inj.1; simp
    rw [happ]
    unfold Builtin.append_
    simp only [List.getElem?_toArray, List.getElem?_cons_zero, List.getElem?_cons_succ]
    rw [Sem.run_bind, run_underlying hu, Result.andThen_ok]
    simp only []
    rw [Sem.run_bind, hs1, Result.andThen_ok, Sem.run_bind, run_underlying hd, Result.andThen_ok, Sem.run_bind,
      pure_false (by cases d <;> first | rfl | exact hni.elim)]
    simp only [Bool.false_eq_true, if_false, Sem.run_bind, hlen, Result.andThen_ok, Sem.run_ite, if_neg hnot, Bool.not_false, if_true, hw1, hibb, hmax, false_and, if_neg hnot2, hch, run_askRoom, ho1, hn1, hz1, Sem.run_pure, run_newRow]
theorem LR.len [Den] {E : Env} {xs ys : List Value} (h : LR E xs ys) : xs.length = ys.length := h.1
theorem all_append {p : Value → Bool} {xs ys : List Value} (h1 : xs.all p = true) (h2 : ys.all p = true) : (xs ++ ys).all p = true := by rw [List.all_append, h1, h2]; rfl
theorem capINF (e : EI) : capOf e INF = e.cap := by unfold capOf; rw [if_neg (by unfold INF HALF; omega)]; omega
theorem append_sound [Den] {ats : Array TypeId} {ty : TypeId} {args args' : List Value} {v : Value} {c c' : Nat} {H' : Heap} {L : Lg} (h : appendA P ats.toList args c H = .ok v c' H' L) (hr : HR P w0 F E H w) (ha : LR E args args') :
    ∃ v' w' E', (Builtin.append_ ats ty args'.toArray).run P w = .ok v' w' ∧ E.le E' ∧ HR P w0 F E' H' w' ∧ VR E' v v' := by
  generalize hal : ats.toList = al at h
  unfold appendA at h
  simp only [rdB_eq, wrB_eq] at h
  split at h
  · rename_i st xt base sLen sCap x
    obtain ⟨s', r1, rfl, hs, ha⟩ := ha.cons_inv
    obtain ⟨x', r2, rfl, hx, ha⟩ := ha.cons_inv
    have := ha.nil_inv
    subst this
    have hats' : ats = #[st, xt] := Array.toList_inj.1 (by simpa using hal)
    subst hats'
    clear hal ha
    replace h := bopt h
    obtain ⟨e, _, he, h⟩ := h
    replace h := bopt h
    obtain ⟨size, _, hsz, h⟩ := h
    replace h := bopt h
    obtain ⟨bytes, _, hby, h⟩ := h
    replace h := bopt h
    obtain ⟨z, _, hz, h⟩ := h
    replace h := bguard h
    obtain ⟨_, hg, h⟩ := h
    replace h := bopt h
    obtain ⟨n, _, hn, h⟩ := h
    simp only [Bool.and_eq_true, Bool.not_eq_true'] at hg
    obtain ⟨⟨⟨g1, g2⟩, g3⟩, g4⟩ := hg
    have g1 := blt_iff.1 g1
    have g4 := Nat.eq_of_beq_eq_true g4
    have hu := elem_under he
    have hlen := run_len (P := P) hn hx w
    cases hn0 : Nat.beq n 0 with
    | true =>
      have hn0 := Nat.eq_of_beq_eq_true hn0
      subst hn0
      simp only [Nat.beq_refl, cond_true] at h
      obtain ⟨hv, hc, hh, _⟩ := pure_ok.1 h
      subst hv hc hh
      have hnew : (Builtin.firstCells size 0 x').run P w = .ok ([] : List Value).toArray w := by
        cases hx <;> simp only [lenA, Option.some.injEq, reduceCtorEq] at hn
        · simp [Builtin.firstCells]
        · simp [Builtin.firstCells]
        · exact first_none _ _ _ _
        · exact first_none _ _ _ _
        · subst hn; exact first_none _ _ _ _
      cases hs with
      | nilS =>
        exact ⟨_, w, E, run_append_none hu hsz g2 g3 hlen hnew, E.le_refl, hr, .nilS⟩
      | weS bb =>
        cases bb with
        | none => exact ⟨_, w, E, run_append_none hu hsz g2 g3 hlen hnew, E.le_refl, hr, .weS none⟩
        | some a => exact ⟨_, w, E, run_append_fits hu hsz g2 g3 hlen (Nat.le_refl _) hnew rfl, E.le_refl, hr, .weS (some a)⟩
      | anS bb cc =>
        cases bb with
        | none => exact ⟨_, w, E, run_append_none2 hu hsz g2 g3 hlen hnew, E.le_refl, hr, .anS none cc⟩
        | some a => exact ⟨_, w, E, run_append_fits hu hsz g2 g3 hlen (Nat.zero_le _) hnew rfl, E.le_refl, hr, .anS (some a) cc⟩
      | sl h1 h2 h3 =>
        exact ⟨_, w, E, run_append_fits hu hsz g2 g3 hlen (by omega) hnew rfl, E.le_refl, hr, .sl h1 h2 h3⟩
    | false =>
      rw [hn0] at h
      simp only [cond_false] at h
      have hnpos : 0 < n := by
        rcases Nat.eq_zero_or_pos n with h0 | h0
        · subst h0; simp at hn0
        · exact h0
      replace h := bguard h
      obtain ⟨_, hgb, h⟩ := h
      simp only [Bool.and_eq_true] at hgb
      have hb1 := Nat.le_of_ble_eq_true hgb.1
      have hb2 := blt_iff.1 hgb.2
      have hb1' : (sLen + n) * bytes ≤ 140737488355328 := by omega
      have hb2' : sLen + n ≤ 9223372036854775807 := by unfold HALF at hb2; omega
      replace h := bind_ok.1 h
      obtain ⟨new, c1, h1, l1, l2, hnew0, h, _⟩ := h
      obtain ⟨hc1, hh1, hnl, new', hnr, hnew⟩ := src_sound hnew0 hr hx hn (Nat.le_refl _)
      subst hc1 hh1
      replace h := bguard h
      obtain ⟨_, hno, h⟩ := h
      -- a new row, of old cells and new ones
      have fresh : ∀ {old old' : List Value} {c2 : Nat} {H2 : Heap} {L2 : Lg} {base' : Option Addr} {cap' : Nat}, LR E old old' → old.all oneB = true → old.length = sLen * size → cap' < sLen + n →
          (∀ w', w'.heap = w.heap → (Builtin.firstCells size sLen (.slice base' sLen cap')).run P w' = .ok old'.toArray w') →
          ∀ {h1 : Heap} {j : Nat}, HR P w0 F E h1 w → M.bind (newA (.row e (mkCells (old ++ new)) false)) (fun j => M.pure (.slice (some ⟨j, 0, none⟩) (sLen + n) INF)) j h1 = .ok v c2 H2 L2 →
          ∃ v' w' E', (Builtin.append_ #[st, xt] ty [.slice base' sLen cap', x'].toArray).run P w = .ok v' w' ∧ E.le E' ∧ HR P w0 F E' H2 w' ∧ VR E' v v' := by
        intro old old' c2 H2 L2 base' cap' ho hone hol hcap hold h1 j hr1 h
        replace h := bind_ok.1 h
        obtain ⟨j2, c3, h3, l3, l4, hj0, h, _⟩ := h
        obtain ⟨hv, hc, hh, _⟩ := pure_ok.1 h
        obtain ⟨hj1, hj2, hj, hj3, _⟩ := newA_inv hj0
        subst hj1 hj2 hj3
        subst hv hc hh
        obtain ⟨newCap, rest, d, k1, k2, k3⟩ := run_append_grows (ty := ty) hu hsz hby hz g4 g2 g3 hlen hcap hb1' hb2' hnew hold
        have hlr := LR.append ho hnr
        have hcapn : ∀ m, sizeB P e = some m → newCap * m ≤ (old' ++ new' ++ rest).length := fun m hm => by
          rw [hsz] at hm; cases hm
          have e1 := ho.len
          have e2 := hnr.len
          simp only [List.length_append, k2]
          rw [← e1, ← e2, hol, hnl, ← Nat.add_mul, ← Nat.add_mul]
          have : sLen + n + (newCap - (sLen + n)) = newCap := by omega
          rw [this]; exact Nat.le_refl _
        obtain ⟨q1, q2⟩ := hr1.newRow (T := e) (more := rest) (cap := newCap) hj hlr (all_append hone hno) hcapn
        refine ⟨_, _, _, k3, q1, q2.heap (w' := { w with heap := w.heap.push (.cells (old' ++ new' ++ rest).toArray e (0, 0)), drawn := d }) rfl rfl rfl rfl, ?_⟩
        have hE : Env.upd E j2 ⟨w.heap.size, 0, newCap⟩ j2 = some ⟨w.heap.size, 0, newCap⟩ := by simp [Env.upd]
        have hp := VR.sl (o := 0) (n := sLen + n) (c := INF) (a' := ⟨w.heap.size, 0, none⟩) hE (by rw [capINF]; exact k1) (.inl rfl)
        rw [capINF] at hp
        exact hp
      split at h
      · -- nil
        cases hs with
        | nilS =>
          have h' : M.bind (newA (.row e (mkCells ([] ++ new)) false)) (fun j => M.pure (.slice (some ⟨j, 0, none⟩) (0 + n) INF)) _ _ = .ok v c' H' _ := h
          exact fresh (base' := none) (cap' := 0) (LR.nil E) rfl (by simp) (by omega) (fun w' _ => rfl) hr h'
        | weS bb =>
          have h' : M.bind (newA (.row e (mkCells ([] ++ new)) false)) (fun j => M.pure (.slice (some ⟨j, 0, none⟩) (0 + n) INF)) _ _ = .ok v c' H' _ := h
          exact fresh (base' := bb) (cap' := 0) (LR.nil E) rfl (by simp) (by omega) (fun w' _ => first_none bb size 0 w') hr h'
        | anS bb cc =>
          simp only [Nat.ble, cond_false] at h
          exact (bad_ok.1 h).elim
      · rename_i i o
        cases hs with
        | sl hE hnc haa =>
          rename_i ei a'
          cases hk : knownCap sCap with
          | true =>
            rw [hk] at h
            simp only [cond_true] at h
            have hk1 := blt_iff.1 hk
            have hcap : capOf ei sCap = sCap := by unfold capOf; rw [if_pos hk1]
            cases hfit : Nat.ble (sLen + n) sCap with
            | true =>
              rw [hfit] at h
              simp only [cond_true] at h
              have hfit := Nat.le_of_ble_eq_true hfit
              replace h := bind_ok.1 h
              obtain ⟨_, c2, h2, _, _, hw, h, _⟩ := h
              obtain ⟨hv, hc, hh, _⟩ := pure_ok.1 h
              have ha' : a' = ⟨ei.blk, ei.off + o, none⟩ := by
                rcases haa with haa | haa
                · exact haa
                · omega
              obtain ⟨hcc, w', k1, k2, _⟩ := wrN_sound (k := 0) (o := o + sLen * size) hw hr hnr hE
              subst hv hc hh hcc ha'
              refine ⟨_, w', E, run_append_fits (ty := ty) hu hsz g2 g3 hlen (by rw [hcap]; exact hfit) (hnew w rfl) ?_, E.le_refl, k2, ?_⟩
              · rw [add_eq, Nat.add_assoc]; exact k1
              · exact .sl hE (by rw [hcap]; exact hfit) (.inl rfl)
            | false =>
              rw [hfit] at h
              simp only [cond_false] at h
              have hfit : sCap < sLen + n := by
                rcases Nat.lt_or_ge sCap (sLen + n) with h0 | h0
                · exact h0
                · rw [Nat.ble_eq_true_of_le h0] at hfit; cases hfit
              replace h := bind_ok.1 h
              obtain ⟨old, c2, h2, _, _, ho, h, _⟩ := h
              replace h := bguard h
              obtain ⟨_, hone, h⟩ := h
              obtain ⟨old', k1, _, k3⟩ := rdN_sound ho hr hE
              obtain ⟨hc2, hh2, hol⟩ := rdN_inv ho
              subst hc2 hh2
              refine fresh (base' := some a') (cap' := capOf ei sCap) k1 hone hol (by rw [hcap]; exact hfit) (fun w' hw' => ?_) hr h
              have hlen' : old'.length = sLen * size := by rw [← k1.1]; exact hol
              simp only [Builtin.firstCells]
              rw [← hlen']
              rcases haa with haa | haa
              · subst haa; exact run_cells fun j v hj => by have := k3 j v hj; simp only [World.cell?, hw'] at *; exact this
              · have : old'.length = 0 := by rw [hlen', show sLen = 0 by omega, Nat.zero_mul]
                have hv : old' = [] := List.eq_nil_of_length_eq_zero this
                subst hv
                rfl
          | false =>
            rw [hk] at h
            simp only [cond_false] at h
            replace h := bind_ok.1 h
            obtain ⟨⟨T, len, ro⟩, c2, h2, _, _, hi, h, _⟩ := h
            obtain ⟨hc2, hh2, T', cs, ro', hget, hinfo⟩ := info_inv hi
            simp only [Prod.mk.injEq] at hinfo
            obtain ⟨hT, hL, hro⟩ := hinfo
            subst hc2 hh2 hT hL hro
            simp only at h
            replace h := bguard h
            obtain ⟨_, hgg, h⟩ := h
            simp only [Bool.and_eq_true, Bool.not_eq_true'] at hgg
            obtain ⟨⟨⟨⟨q1, q2⟩, q3⟩, q4⟩, q5⟩ := hgg
            have q1 := Nat.eq_of_beq_eq_true q1
            have q3 := Nat.eq_of_beq_eq_true q3
            have q4 := Nat.eq_of_beq_eq_true q4
            have q5 := Nat.le_of_ble_eq_true q5
            subst q1 q2
            have slow : ∀ {c2 : Nat} {H2 : Heap} {L2 : Lg} {c9 : Nat} {H9 : Heap}, HR P w0 F E H9 w → H9.get i = some (.row T cs false) → M.bind (rdN i o (sLen * size)) (fun old => M.bind (guardM 326 (old.all oneB)) fun _ => M.bind (killA i) fun _ => M.bind (newA (.row T (mkCells (old ++ new)) false)) fun j => M.pure (.slice (some ⟨j, 0, none⟩) (sLen + n) INF)) c9 H9 = .ok v c2 H2 L2 →
                ∃ v' w' E', (Builtin.append_ #[st, xt] ty [.slice (some a') sLen (capOf ei sCap), x'].toArray).run P w = .ok v' w' ∧ E.le E' ∧ HR P w0 F E' H2 w' ∧ VR E' v v' := by
              intro c' H' L c9 H9 hr hget h
              replace h := bind_ok.1 h
              obtain ⟨old, c3, h3, _, _, ho, h, _⟩ := h
              replace h := bguard h
              obtain ⟨_, hone, h⟩ := h
              obtain ⟨old', k1, _, k3⟩ := rdN_sound ho hr hE
              obtain ⟨hc3, hh3, hol⟩ := rdN_inv ho
              subst hc3 hh3
              replace h := bind_ok.1 h
              obtain ⟨_, c4, h4, _, _, hkl, h, _⟩ := h
              obtain ⟨hc4, hh4, T2, cs2, hget2⟩ := killA_inv hkl
              subst hc4 hh4
              have hr2 := hr.kill hget rfl rfl hE
              have hlen' : old'.length = sLen * size := by rw [← k1.1]; exact hol
              rcases Nat.lt_or_ge (capOf ei sCap) (sLen + n) with hfit | hfit
              · -- a new block
                refine fresh (base' := some a') (cap' := capOf ei sCap) k1 hone hol hfit (fun w' hw' => ?_) hr2 h
                simp only [Builtin.firstCells]
                rw [← hlen']
                rcases haa with haa | haa
                · subst haa; exact run_cells fun j v hj => by have := k3 j v hj; simp only [World.cell?, hw'] at *; exact this
                · have : old'.length = 0 := by rw [hlen', show sLen = 0 by omega, Nat.zero_mul]
                  have hv : old' = [] := List.eq_nil_of_length_eq_zero this
                  subst hv
                  rfl
              · -- in place
                have ha' : a' = ⟨ei.blk, ei.off + o, none⟩ := by
                  rcases haa with haa | haa
                  · exact haa
                  · omega
                subst ha'
                replace h := bind_ok.1 h
                obtain ⟨j, c5, h5, _, _, hj0, h, _⟩ := h
                obtain ⟨hv, hc, hh, _⟩ := pure_ok.1 h
                obtain ⟨hj1, hj2, hj, hj3, _⟩ := newA_inv hj0
                subst hj1 hj2 hj3
                subst hv hc hh
                obtain ⟨e2, cells, m1, m2, m3, m4⟩ := hr.obj i _ hget
                rw [hE] at m1; cases m1
                have hsize := m3 rfl size hsz
                have hkn : ¬ sCap < HALF := fun h0 => by rw [knownCap, blt_iff.2 h0] at hk; cases hk
                have hc1 : capOf ei sCap = ei.cap - (INF - sCap) := by unfold capOf; rw [if_neg hkn]
                have hnl' : new'.length = n * size := by rw [← hnr.len]; exact hnl
                -- there is room in the block
                have hroom : ei.off + (o + sLen * size) + n * size ≤ cells.size := by
                  have h0 : (INF - sCap) + (sLen + n) ≤ ei.cap := by omega
                  have h1 := Nat.mul_le_mul_right size h0
                  rw [Nat.add_mul, Nat.add_mul, ← q3] at h1
                  omega
                have hst := run_storeCells_at (P := P) ei.blk (ei.off + (o + sLen * size)) T new' 0 cells w m2 (by rw [hnl']; exact hroom) (fun u hu => by
                  rw [← oneB_iff]
                  obtain ⟨k, hk⟩ := List.mem_iff_getElem?.1 hu
                  have hkl : k < new.length := by rw [hnr.len]; exact (List.getElem?_eq_some_iff.1 hk).1
                  have := hnr.2 k new[k] u (by simp [hkl]) hk
                  rw [this.oneB]
                  exact List.all_eq_true.1 hno _ (List.getElem_mem hkl))
                simp only [Nat.add_zero] at hst
                generalize hcl : (cells.toList.take (ei.off + (o + sLen * size)) ++ new' ++ cells.toList.drop (ei.off + (o + sLen * size) + new'.length)).toArray = cells2 at hst
                have hsz2 : cells2.size = cells.size := by
                  rw [← hcl]; simp [hnl']; omega
                have hE2 : Env.upd E j ⟨ei.blk, ei.off + o, capOf ei sCap⟩ j = some ⟨ei.blk, ei.off + o, capOf ei sCap⟩ := by simp [Env.upd]
                have hle2 : E.le (Env.upd E j ⟨ei.blk, ei.off + o, capOf ei sCap⟩) := Env.le_upd (by
                  cases h0 : E j with
                  | none => rfl
                  | some x => exact absurd hj (hr2.dom j x h0))
                have hlr := LR.append k1 hnr
                have hadopt := hr2.adopt (j := j) (T := T) (cs := old ++ new) (cells := cells2) (e := ⟨ei.blk, ei.off + o, capOf ei sCap⟩) (w' := w.setRow ei.blk cells2) hj
                  (fun k p x hkp hlp hx => by
                    by_cases hki : k = i
                    · subst hki; rw [Tr.get_set_self] at hkp; cases hkp; simp [live] at hlp
                    · rw [Tr.get_set_ne _ _ hki] at hkp
                      exact hr.inj k i _ _ x ei hki hkp hget hlp rfl (.inr rfl) hx hE)
                  (hr.own i _ ei hget rfl hE) rfl rfl rfl (setRow_size _ _ _) (fun b hb => setRow_other _ _ _ _ hb) (setRow_heap _ _ _ _ _ _ m2) ⟨fun _ m hm => by
                    rw [hsz] at hm; cases hm
                    rw [hsz2]
                    show ei.off + o + capOf ei sCap * size ≤ cells.size
                    have h0 : (INF - sCap) + capOf ei sCap ≤ ei.cap ∨ ei.cap < INF - sCap := by omega
                    rcases h0 with h0 | h0
                    · have h1 := Nat.mul_le_mul_right size h0
                      rw [Nat.add_mul, ← q3] at h1
                      omega
                    · omega, fun k u hk => by
                    rw [mkCells_get] at hk
                    obtain ⟨y, hy, hvy⟩ := hlr.get hk
                    refine ⟨y, ?_, hvy.mono hle2, ?_⟩
                    · show cells2[ei.off + o + k]? = some y
                      rw [← hcl]
                      rw [List.getElem?_toArray, List.append_assoc]
                      by_cases hko : k < old'.length
                      · rw [List.getElem?_append_left (by rw [List.length_take]; simp; omega)]
                        rw [List.getElem?_take, if_pos (by omega)]
                        rw [List.getElem?_append_left hko] at hy
                        have := k3 k y hy
                        obtain ⟨_, fz, m2'⟩ := CAt.frz m2
                        simp only [World.cell?, m2'] at this
                        simpa using this
                      · have htl : (cells.toList.take (ei.off + (o + sLen * size))).length = ei.off + (o + sLen * size) := by simp; omega
                        rw [List.getElem?_append_right (by rw [htl]; omega), htl]
                        rw [List.getElem?_append_right (by omega)] at hy
                        have hkn : k - old'.length < new'.length := (List.getElem?_eq_some_iff.1 hy).1
                        rw [List.getElem?_append_left (by omega), ← hy]
                        congr 1; omega
                    · rw [hvy.oneB]; exact List.all_eq_true.1 (all_append hone hno) u (List.mem_of_getElem? hk)⟩
                refine ⟨_, _, _, run_append_fits (ty := ty) hu hsz g2 g3 hlen hfit (hnew w rfl) (by rw [add_eq, Nat.add_assoc]; exact hst), hadopt.1, hadopt.2, ?_⟩
                have hp := VR.sl (o := 0) (n := sLen + n) (c := INF) (a' := ⟨ei.blk, ei.off + o, none⟩) hE2 (by rw [capINF]; exact hfit) (.inl rfl)
                rw [capINF] at hp
                exact hp
            cases hbo : Nat.beq o 0 with
            | false => rw [hbo] at h; simp only [cond_false] at h; exact slow hr hget h
            | true =>
              rw [hbo] at h
              simp only [cond_true] at h
              have ho0 := Nat.eq_of_beq_eq_true hbo
              replace h := bind_ok.1 h
              obtain ⟨j, c3, h3, _, _, hgr, h, _⟩ := h
              obtain ⟨hv, hc, hh, _⟩ := pure_ok.1 h
              subst hv hc hh
              obtain ⟨j1, j2, _, cs3, hg3, hx2, j3⟩ := growA_inv hgr
              rw [hget] at hg3
              cases hg3
              subst j1 j2 j3
              obtain ⟨e2, cells, m1, m2, m3, m4⟩ := hr.obj i _ hget
              obtain ⟨old, o1, o2⟩ := full_list cs
              obtain ⟨_, a2⟩ := app_spec cs new
              subst ho0
              have hol : old.length = sLen * size := by omega
              have hrd := rdN_run (c := j) hget (o := 0) (vs := old) hol (fun k _ => by rw [Nat.zero_add]; exact o2 k)
              have hone : old.all oneB = true := List.all_eq_true.2 fun u hu => by
                obtain ⟨k, hk⟩ := List.mem_iff_getElem?.1 hu
                obtain ⟨y, _, y2, y3⟩ := m4 k u (by rw [o2 k]; exact hk)
                rw [← y2.oneB]; exact y3
              have hne : j ≠ i := fun e => by rw [e, hget] at hx2; cases hx2
              have hkill : killA i j h2 = .ok () j (h2.set i .dead) (.one (.row i true)) := by simp [killA, hget]
              have hnewA : newA (.row T (mkCells (old ++ new)) false) j (h2.set i .dead) = .ok j (j + 1) ((h2.set i .dead).set j (.row T (mkCells (old ++ new)) false)) (.one (.row j true)) := by
                simp [newA, Tr.get_set_ne _ _ hne, hx2]
              obtain ⟨_, hrun⟩ : ∃ L, M.bind (rdN i 0 (sLen * size)) (fun old => M.bind (guardM 326 (old.all oneB)) fun _ => M.bind (killA i) fun _ => M.bind (newA (.row T (mkCells (old ++ new)) false)) fun j => M.pure (Value.slice (some ⟨j, 0, none⟩) (sLen + n) INF)) j h2 =
                  .ok (Value.slice (some ⟨j, 0, none⟩) (sLen + n) INF) (j + 1) ((h2.set i .dead).set j (.row T (mkCells (old ++ new)) false)) L :=
                ⟨_, bind_ok.2 ⟨old, j, h2, _, _, hrd, bind_ok.2 ⟨(), j, h2, _, _, guard_ok.2 ⟨hone, rfl, rfl, rfl⟩, bind_ok.2 ⟨(), j, h2.set i .dead, _, _, hkill, bind_ok.2 ⟨j, j + 1, _, _, _, hnewA, pure_ok.2 ⟨rfl, rfl, rfl, rfl⟩, rfl⟩, rfl⟩, rfl⟩, rfl⟩⟩
              obtain ⟨v', w', E', r1, r2, r3, r4⟩ := slow hr hget hrun
              refine ⟨v', w', E', r1, r2, r3.recell (fun k => ?_), r4⟩
              rw [a2 k, mkCells_get]
              by_cases hk : k < cs.len
              · rw [if_pos hk, o2 k, List.getElem?_append_left (by omega)]
              · rw [if_neg hk, List.getElem?_append_right (by omega)]
                congr 1; omega
      · exact (bad_ok.1 h).elim
  · exact (bad_ok.1 h).elim
end
end Go.Sx
namespace Go.Sx
section
variable {P : Program} {w0 : World} {F : Nat → Prop} {E : Env} {H : Heap} {w : World}
def kindOf : Value → TypeDesc → Prop
  | .int _ _, .int _ => True
  | .string _, .string => True
  | .bool _, .bool => True
  | _, _ => False
theorem key_kind {t : TypeId} {v : Value} (h : keyB P t v = true) : ∃ d, P.underlying t = some d ∧ kindOf v d := by
  unfold keyB at h
  split at h <;> first | (cases h; done) | (rename_i hu; exact ⟨_, hu, trivial⟩)
theorem kind_plain {v : Value} {d : TypeDesc} (h : kindOf v d) : plainB v = true := by
  cases v <;> first | rfl | (exact h.elim)
theorem bytes_beq {a b : ByteArray} (h : (a == b) = true) : a = b := by
  cases a; cases b
  rename_i x y
  have h2 : (x == y) = true := h
  rw [eq_of_beq h2]
theorem bytes_refl (a : ByteArray) : (a == a) = true := by
  cases a
  rename_i x
  show (x == x) = true
  exact beq_self_eq_true x
theorem same_now {k a : Value} {d : TypeDesc} {b : Bool} (hk : kindOf k d) (h : sameA k a = some b) : plainB a = true ∧ Instr.sameNow d k a = some b ∧ (b = true → a = k) := by
  cases k with
  | bool x =>
    cases d <;> first | (exact hk.elim) | skip
    cases a <;> first | (simp only [sameA, reduceCtorEq] at h; done) | skip
    exact ⟨rfl, h, fun hb => by subst hb; have h2 := Option.some.inj h; have h3 := eq_of_beq h2; rw [h3]⟩
  | int i m =>
    cases d <;> first | (exact hk.elim) | skip
    cases a <;> first | (simp only [sameA, reduceCtorEq] at h; done) | skip
    rename_i _ j n
    simp only [sameA] at h
    by_cases hij : i = j
    · rw [if_pos hij] at h
      refine ⟨rfl, by simp only [Instr.sameNow, if_pos hij, h], fun hb => ?_⟩
      simp only [Option.some.injEq] at h; subst hb; simp at h; rw [hij, h]
    · rw [if_neg hij] at h; cases h
  | string x =>
    cases d <;> first | (exact hk.elim) | skip
    cases a <;> first | (simp only [sameA, reduceCtorEq] at h; done) | skip
    exact ⟨rfl, h, fun hb => by subst hb; have h2 := Option.some.inj h; have h3 := bytes_beq h2; rw [h3]⟩
  | _ => exact hk.elim
theorem find_now [Den] {k : Value} {d : TypeDesc} (hk : kindOf k d) : ∀ {es : List (Value × Value)} {ents : List MapEntry} {r : Option Value} (i : Nat), findA k es = some r → PR E es ents →
    (r = none ∧ Instr.findNow d k ents i = some none) ∨ (∃ v v' j, r = some v ∧ VR E v v' ∧ Instr.findNow d k ents i = some (some (i + j, v')))
  | [], ents, r, i, h, hp => by
    cases hp
    simp only [findA, Option.some.injEq] at h
    exact .inl ⟨h.symm, rfl⟩
  | (k', u) :: es, ents, r, i, h, hp => by
    cases hp with
    | cons hkk hv hp =>
      rename_i e ys
      simp only [findA] at h
      cases hs : sameA k k' with
      | none => rw [hs] at h; cases h
      | some b =>
        rw [hs] at h
        obtain ⟨h1, h2, h3⟩ := same_now hk hs
        have he : e.key = k' := hkk.plain h1
        cases b with
        | true =>
          simp only [Option.some.injEq] at h
          subst h
          exact .inr ⟨u, e.val, 0, rfl, hv, by simp [Instr.findNow, he, h2]⟩
        | false =>
          simp only at h
          rcases find_now hk (i + 1) h hp with ⟨q1, q2⟩ | ⟨v, v', j, q1, q2, q3⟩
          · exact .inl ⟨q1, by simp [Instr.findNow, he, h2, q2]⟩
          · exact .inr ⟨v, v', j + 1, q1, q2, by simp only [Instr.findNow, he, h2, q3]; congr 3; omega⟩
theorem put_now [Den] {k v v' : Value} {d : TypeDesc} (hk : kindOf k d) (hvv : VR E v v') : ∀ {es es' : List (Value × Value)} {ents : List MapEntry} (i : Nat), putA k v es = some es' → PR E es ents →
    (Instr.findNow d k ents i = some none ∧ ∀ n, PR E es' (ents ++ [{ key := k, val := v', born := n }])) ∨
    (∃ u j, Instr.findNow d k ents i = some (some (i + j, u)) ∧ (∃ e0, ents[j]? = some e0 ∧ e0.key = k) ∧ PR E es' (ents.modify j fun e => { e with key := k, val := v' }))
  | [], es', ents, i, h, hp => by
    cases hp
    simp only [putA, Option.some.injEq] at h
    subst h
    exact .inl ⟨rfl, fun n => .cons (VR.clean (by cases k <;> first | rfl | exact hk.elim)) hvv .nil⟩
  | (k', u) :: es, es', ents, i, h, hp => by
    cases hp with
    | cons hkk hv hp =>
      rename_i e ys
      simp only [putA] at h
      cases hs : sameA k k' with
      | none => rw [hs] at h; cases h
      | some b =>
        rw [hs] at h
        obtain ⟨h1, h2, h3⟩ := same_now hk hs
        have he : e.key = k' := hkk.plain h1
        cases b with
        | true =>
          simp only [Option.some.injEq] at h
          subst h
          refine .inr ⟨e.val, 0, by simp [Instr.findNow, he, h2], ⟨e, rfl, by rw [he, h3 rfl]⟩, ?_⟩
          simp only [List.modify_zero_cons]
          exact .cons (VR.clean (by cases k <;> first | rfl | exact hk.elim)) hvv hp
        | false =>
          simp only at h
          cases hq : putA k v es with
          | none => rw [hq] at h; cases h
          | some r =>
            rw [hq] at h
            simp only [Option.some.injEq] at h
            subst h
            rcases put_now hk hvv (i + 1) hq hp with ⟨q1, q2⟩ | ⟨x, j, q1, ⟨e0, q2, q3⟩, q4⟩
            · exact .inl ⟨by simp [Instr.findNow, he, h2, q1], fun n => .cons hkk hv (q2 n)⟩
            · refine .inr ⟨x, j + 1, by simp only [Instr.findNow, he, h2, q1]; congr 3; omega, ⟨e0, by simpa using q2, q3⟩, ?_⟩
              simp only [List.modify_succ_cons]
              exact .cons hkk hv q4
theorem drop_now [Den] {k : Value} {d : TypeDesc} (hk : kindOf k d) : ∀ {es es' : List (Value × Value)} {ents : List MapEntry} (i : Nat), dropA k es = some es' → PR E es ents →
    (Instr.findNow d k ents i = some none ∧ PR E es' ents) ∨ (∃ u j, Instr.findNow d k ents i = some (some (i + j, u)) ∧ j < ents.length ∧ PR E es' (ents.eraseIdx j))
  | [], es', ents, i, h, hp => by
    cases hp
    simp only [dropA, Option.some.injEq] at h
    subst h
    exact .inl ⟨rfl, .nil⟩
  | (k', u) :: es, es', ents, i, h, hp => by
    cases hp with
    | cons hkk hv hp =>
      rename_i e ys
      simp only [dropA] at h
      cases hs : sameA k k' with
      | none => rw [hs] at h; cases h
      | some b =>
        rw [hs] at h
        obtain ⟨h1, h2, h3⟩ := same_now hk hs
        have he : e.key = k' := hkk.plain h1
        cases b with
        | true =>
          simp only [Option.some.injEq] at h
          subst h
          exact .inr ⟨e.val, 0, by simp [Instr.findNow, he, h2], by simp, by simpa using hp⟩
        | false =>
          simp only at h
          cases hq : dropA k es with
          | none => rw [hq] at h; cases h
          | some r =>
            rw [hq] at h
            simp only [Option.some.injEq] at h
            subst h
            rcases drop_now hk (i + 1) hq hp with ⟨q1, q2⟩ | ⟨x, j, q1, q2, q3⟩
            · exact .inl ⟨by simp [Instr.findNow, he, h2, q1], .cons hkk hv q2⟩
            · refine .inr ⟨x, j + 1, by simp only [Instr.findNow, he, h2, q1]; congr 3; omega, by simp; omega, ?_⟩
              simp only [List.eraseIdx_cons_succ]
              exact .cons hkk hv q3
theorem check_key {t : TypeId} {k : Value} {d : TypeDesc} (hu : P.underlying t = some d) (hk : kindOf k d) (b : Bool) (w : World) : (Instr.checkKey b 10000 t k).run P w = .ok () w := by
  show (Instr.checkKey b (9999 + 1) t k).run P w = .ok () w
  unfold Instr.checkKey
  rw [Sem.run_bind, run_underlying hu, Result.andThen_ok]
  cases k <;> first | (exact hk.elim) | skip
  all_goals cases d <;> first | (exact hk.elim) | rfl
theorem find_key {t : TypeId} {k : Value} {d : TypeDesc} {es : List MapEntry} {r : Option (Nat × Value)} (hu : P.underlying t = some d) (h : Instr.findNow d k es 0 = some r) (w : World) :
    (Instr.findKey t k es).run P w = .ok r w := by
  simp [Instr.findKey, run_underlying hu, h]
theorem mapGet_inv {i c c' : Nat} {es : List (Value × Value)} {H' : Heap} {L : Lg} (h : mapGet i c H = .ok es c' H' L) : c' = c ∧ H' = H ∧ H.get i = some (.map es) := by
  unfold mapGet at h
  split at h
  · rename_i es' hi; cases h; exact ⟨rfl, rfl, hi⟩
  · cases h
theorem mapSet_inv {i c c' : Nat} {es : List (Value × Value)} {H' : Heap} {L : Lg} (h : mapSet i es c H = .ok () c' H' L) : c' = c ∧ H' = H.set i (.map es) := by
  unfold mapSet at h
  split at h
  · cases h; exact ⟨rfl, rfl⟩
  · cases h
theorem map_types {t kt et : TypeId} (h : mapT P t = some (kt, et)) : P.underlying t = some (.map kt et) := by
  unfold mapT at h; split at h
  · rename_i hu; cases h; exact hu
  · cases h
theorem run_getMap {r : Nat} {ents : Array MapEntry} {clock : Nat} (h : w.heap[r]? = some (.map ents clock)) : (getObj r).run P w = .ok (.map ents clock) w := by
  simp [getObj, Sem.run, h]
theorem run_setMap {r : Nat} {o o' : Obj} (h : w.heap[r]? = some o) (ho : ∀ c T fz, o ≠ .cells c T fz) : (setObj r o').run P w = .ok () { w with heap := w.heap.setIfInBounds r o' } := by
  cases o <;> first | (exact absurd rfl (ho _ _ _)) | simp [setObj, Sem.run, h]
theorem lookup_sound [Den] {t : TypeId} {x x' k k' v : Value} {ok : Bool} {c c' : Nat} {H' : Heap} {L : Lg} (h : lookupA P t x k ok c H = .ok v c' H' L) (hr : HR P w0 F E H w) (hx : VR E x x') (hk : VR E k k') :
    c' = c ∧ H' = H ∧ ∃ v', (Instr.lookup t x' k' ok).run P w = .ok v' w ∧ VR E v v' := by
  unfold lookupA at h
  replace h := bopt h
  obtain ⟨⟨kt, et⟩, _, hm, h⟩ := h
  simp only at h
  replace h := bguard h
  obtain ⟨_, hkb, h⟩ := h
  replace h := bopt h
  obtain ⟨z, _, hz, h⟩ := h
  replace h := bguard h
  obtain ⟨_, hcl, h⟩ := h
  replace h := bind_ok.1 h
  obtain ⟨es, c1, h1, _, _, hes, h, _⟩ := h
  have hu := map_types hm
  obtain ⟨d, hd, hkd⟩ := key_kind hkb
  have hkp := kind_plain hkd
  have hk' : k' = k := hk.plain hkp
  subst hk'
  have hzz := VR.clean (E := E) hcl
  have fin : ∀ (ents : List MapEntry), PR E es ents → ∀ r, findA k' es = some r → ∃ r', (Instr.findKey kt k' ents).run P w = .ok r' w ∧ ((r = none ∧ r' = none) ∨ ∃ v v' j, r = some v ∧ r' = some (j, v') ∧ VR E v v') := by
    intro ents hp r hf
    rcases find_now hkd 0 hf hp with ⟨q1, q2⟩ | ⟨v, v', j, q1, q2, q3⟩
    · exact ⟨none, find_key hd q2 w, .inl ⟨q1, rfl⟩⟩
    · exact ⟨_, find_key hd q3 w, .inr ⟨v, v', _, q1, rfl, q2⟩⟩
  have hck := fun b => check_key hd hkd b w
  have base : c1 = c ∧ h1 = H ∧ ∃ ents : List MapEntry, PR E es ents ∧ ∀ (r' : Option (Nat × Value)), (Instr.findKey kt k' ents).run P w = .ok r' w →
      (Instr.lookup t x' k' ok).run P w = .ok (if ok then .tuple #[(match r' with | some (_, v) => v | none => z), .bool (match r' with | some _ => true | none => false)] else (match r' with | some (_, v) => v | none => z)) w := by
    cases hx <;> simp only at hes <;> first | (exact (bad_ok.1 hes).elim) | skip
    · obtain ⟨q1, q2, q3, _⟩ := pure_ok.1 hes
      subst q1 q2 q3
      refine ⟨rfl, rfl, [], .nil, fun r' hf => ?_⟩
      simp only [Instr.lookup, Sem.run_bind, run_underlying hu, Result.andThen_ok, Sem.run_pure, hck, hf]
      cases r' <;> simp [run_zero hz]
    · rename_i i e he
      obtain ⟨q1, q2, hi⟩ := mapGet_inv hes
      subst q1 q2
      obtain ⟨e2, ents, clock, q1, q2, q3⟩ := hr.obj i _ hi
      rw [he] at q1; cases q1
      refine ⟨rfl, rfl, ents.toList, q3, fun r' hf => ?_⟩
      simp only [Instr.lookup, Sem.run_bind, run_underlying hu, Result.andThen_ok, run_getMap q2, Sem.run_pure, hck, hf]
      cases r' <;> simp [run_zero hz]
  obtain ⟨hc, hh, ents, hp, hrun⟩ := base
  subst hc hh
  cases hf : findA k' es with
  | none => rw [hf] at h; exact (bad_ok.1 h).elim
  | some r =>
    rw [hf] at h
    obtain ⟨r', hf', hcase⟩ := fin _ hp _ hf
    cases r with
    | some v0 =>
      obtain ⟨hv, hc, hh, _⟩ := pure_ok.1 h
      subst hc hh
      rcases hcase with ⟨q1, _⟩ | ⟨v1, v', j, q1, q2, q3⟩
      · cases q1
      · cases q1
        subst q2
        refine ⟨rfl, rfl, _, hrun _ hf', ?_⟩
        subst hv
        cases ok
        · simpa using q3
        · exact .tup_of (LR.cons q3 (LR.cons (.bool _) (LR.nil E)))
    | none =>
      obtain ⟨hv, hc, hh, _⟩ := pure_ok.1 h
      subst hc hh
      rcases hcase with ⟨q1, q2⟩ | ⟨v1, v', j, q1, q2, q3⟩
      · subst q2
        refine ⟨rfl, rfl, _, hrun _ hf', ?_⟩
        subst hv
        cases ok
        · simpa using hzz
        · exact .tup_of (LR.cons hzz (LR.cons (.bool _) (LR.nil E)))
      · cases q1
theorem update_sound [Den] {t : TypeId} {x x' k k' v v' : Value} {c c' : Nat} {H' : Heap} {L : Lg} (h : mapUpdateA P t x k v c H = .ok () c' H' L) (hr : HR P w0 F E H w) (hx : VR E x x') (hk : VR E k k') (hv : VR E v v') :
    c' = c ∧ ∃ w', (Instr.mapUpdate t x' k' v').run P w = .ok () w' ∧ HR P w0 F E H' w' := by
  unfold mapUpdateA at h
  replace h := bopt h
  obtain ⟨⟨kt, et⟩, _, hm, h⟩ := h
  simp only at h
  replace h := bguard h
  obtain ⟨_, hkb, h⟩ := h
  have hu := map_types hm
  obtain ⟨d, hd, hkd⟩ := key_kind hkb
  have hkp := kind_plain hkd
  have hk' : k' = k := hk.plain hkp
  subst hk'
  have hck := check_key hd hkd false w
  cases hx <;> simp only at h <;> first | (exact (bad_ok.1 h).elim) | skip
  rename_i i e he
  replace h := bind_ok.1 h
  obtain ⟨es, c1, h1, _, _, hes, h, _⟩ := h
  obtain ⟨q1, q2, hi⟩ := mapGet_inv hes
  subst q1 q2
  replace h := bopt h
  obtain ⟨es', _, hput, h⟩ := h
  obtain ⟨q1, q2⟩ := mapSet_inv h
  subst q1 q2
  obtain ⟨e2, ents, clock, m1, m2, m3⟩ := hr.obj i _ hi
  rw [he] at m1; cases m1
  have hlt : e.blk < w.heap.size := hr.blk_lt hi rfl he
  have turn : ∀ (ents2 : Array MapEntry) (clock2 : Nat), PR E es' ents2.toList → HR P w0 F E (h1.set i (.map es')) { w with heap := w.heap.setIfInBounds e.blk (.map ents2 clock2) } := by
    intro ents2 clock2 hp
    refine hr.turn hi rfl rfl he rfl rfl rfl (by simp) (fun b hb => ?_) ⟨e, ents2, clock2, he, ?_, hp⟩
    · rw [Array.getElem?_setIfInBounds_ne (Ne.symm hb)]
    · simp [hlt]
  refine ⟨rfl, ?_⟩
  rcases put_now hkd hv 0 hput m3 with ⟨q1, q2⟩ | ⟨u, j, q1, ⟨e0, q2, q3⟩, q4⟩
  · refine ⟨_, ?_, turn (ents.push { key := k', val := v', born := clock }) (clock + 1) (by simpa using q2 clock)⟩
    simp only [Instr.mapUpdate, Sem.run_bind, run_underlying hu, Result.andThen_ok, run_getMap m2, hck, find_key hd q1]
    exact run_setMap m2 (fun _ _ _ h => by cases h)
  · refine ⟨_, ?_, turn (ents.modify j fun e => { e with key := k', val := v' }) clock (by simpa using q4)⟩
    rw [Nat.zero_add] at q1
    have hkey : ((ents[j]?).map (·.key)).getD k' = k' := by
      have : ents[j]? = some e0 := by simpa using q2
      rw [this]; simpa using q3
    have hstay : (Instr.keyThatStays k' k').run P w = .ok k' w := by
      have hb : Instr.sameBits 10000 k' k' = true := by
        cases k' <;> first | (exact hkd.elim) | skip
        all_goals simp [Instr.sameBits, bytes_refl]
      simp [Instr.keyThatStays, hb]
    simp only [Instr.mapUpdate, Sem.run_bind, run_underlying hu, Result.andThen_ok, run_getMap m2, hck, find_key hd q1, hkey, hstay]
    exact run_setMap m2 (fun _ _ _ h => by cases h)
theorem delete_sound [Den] {ats : Array TypeId} {t ty : TypeId} (hat : ats[0]? = some t) {x x' k k' : Value} {c c' : Nat} {H' : Heap} {L : Lg} (h : deleteA P t x k c H = .ok () c' H' L) (hr : HR P w0 F E H w) (hx : VR E x x') (hk : VR E k k') :
    c' = c ∧ ∃ w', (Builtin.delete_ ats ty #[x', k']).run P w = .ok (.tuple #[]) w' ∧ HR P w0 F E H' w' := by
  unfold deleteA at h
  replace h := bopt h
  obtain ⟨⟨kt, et⟩, _, hm, h⟩ := h
  simp only at h
  replace h := bguard h
  obtain ⟨_, hkb, h⟩ := h
  have hu := map_types hm
  obtain ⟨d, hd, hkd⟩ := key_kind hkb
  have hkp := kind_plain hkd
  have hk' : k' = k := hk.plain hkp
  subst hk'
  have hck := fun b => check_key hd hkd b w
  cases hx <;> simp only at h <;> first | (exact (bad_ok.1 h).elim) | skip
  · obtain ⟨_, q1, q2, _⟩ := pure_ok.1 h
    subst q1 q2
    refine ⟨rfl, w, ?_, hr⟩
    simp [Builtin.delete_, hat, run_underlying hu, hck]
  rename_i i e he
  replace h := bind_ok.1 h
  obtain ⟨es, c1, h1, _, _, hes, h, _⟩ := h
  obtain ⟨q1, q2, hi⟩ := mapGet_inv hes
  subst q1 q2
  replace h := bopt h
  obtain ⟨es', _, hput, h⟩ := h
  obtain ⟨q1, q2⟩ := mapSet_inv h
  subst q1 q2
  obtain ⟨e2, ents, clock, m1, m2, m3⟩ := hr.obj i _ hi
  rw [he] at m1; cases m1
  have hlt : e.blk < w.heap.size := hr.blk_lt hi rfl he
  have turn : ∀ (ents2 : Array MapEntry) (clock2 : Nat), PR E es' ents2.toList → HR P w0 F E (h1.set i (.map es')) { w with heap := w.heap.setIfInBounds e.blk (.map ents2 clock2) } := by
    intro ents2 clock2 hp
    refine hr.turn hi rfl rfl he rfl rfl rfl (by simp) (fun b hb => ?_) ⟨e, ents2, clock2, he, ?_, hp⟩
    · rw [Array.getElem?_setIfInBounds_ne (Ne.symm hb)]
    · simp [hlt]
  refine ⟨rfl, ?_⟩
  rcases drop_now hkd 0 hput m3 with ⟨q1, q2⟩ | ⟨u, j, q1, q2, q3⟩
  · refine ⟨_, ?_, turn ents clock q2⟩
    simp [Builtin.delete_, hat, run_underlying hu, run_getMap m2, hck, find_key hd q1, run_setMap (P := P) (o' := .map ents clock) m2 (fun _ _ _ h => by cases h)]
  · refine ⟨_, ?_, turn (ents.eraseIdxIfInBounds j) clock (by simpa using q3)⟩
    rw [Nat.zero_add] at q1
    simp [Builtin.delete_, hat, run_underlying hu, run_getMap m2, hck, find_key hd q1, run_setMap (P := P) (o' := .map (ents.eraseIdxIfInBounds j) clock) m2 (fun _ _ _ h => by cases h)]
theorem PR.length [Den] {E : Env} {xs : List (Value × Value)} {ys : List MapEntry} (h : PR E xs ys) : xs.length = ys.length := by
  induction h with
  | nil => rfl
  | cons _ _ _ ih => simp [ih]
theorem len_sound [Den] {ats : Array TypeId} {t ty : TypeId} (hat : ats[0]? = some t) {x x' v : Value} {c c' : Nat} {H' : Heap} {L : Lg} (h : lenBuiltin P t x c H = .ok v c' H' L) (hr : HR P w0 F E H w) (hx : VR E x x') :
    c' = c ∧ H' = H ∧ ∃ v', (Builtin.len_ ats ty #[x']).run P w = .ok v' w ∧ VR E v v' := by
  unfold lenBuiltin at h
  cases hu : P.underlying t with
  | none => rw [hu] at h; exact (bad_ok.1 h).elim
  | some d =>
    rw [hu] at h
    cases d <;> simp only at h <;> first | (exact (bad_ok.1 h).elim) | skip
    · cases x <;> (try simp only at h) <;> first | (exact (bad_ok.1 h).elim) | skip
      obtain ⟨hv, hc, hh, _⟩ := pure_ok.1 h
      subst hv hc hh
      cases hx
      exact ⟨rfl, rfl, _, by simp [Builtin.len_, hat, run_underlying hu]; rfl, .int _ _⟩
    · cases x <;> (try simp only at h) <;> first | (exact (bad_ok.1 h).elim) | skip
      obtain ⟨hv, hc, hh, _⟩ := pure_ok.1 h
      subst hv hc hh
      cases hx <;> exact ⟨rfl, rfl, _, by simp [Builtin.len_, hat, run_underlying hu]; rfl, .int _ _⟩
    · obtain ⟨hv, hc, hh, _⟩ := pure_ok.1 h
      subst hv hc hh
      exact ⟨rfl, rfl, _, by simp [Builtin.len_, hat, run_underlying hu]; rfl, .int _ _⟩
    · cases x <;> (try simp only at h) <;> first | (exact (bad_ok.1 h).elim) | skip
      rename_i r
      cases r with
      | none =>
        obtain ⟨hv, hc, hh, _⟩ := pure_ok.1 h
        subst hv hc hh
        cases hx
        exact ⟨rfl, rfl, _, by simp [Builtin.len_, hat, run_underlying hu]; rfl, .int _ _⟩
      | some i =>
        simp only at h
        replace h := bind_ok.1 h
        obtain ⟨es, c1, h1, _, _, hes, h, _⟩ := h
        obtain ⟨q1, q2, hi⟩ := mapGet_inv hes
        subst q1 q2
        obtain ⟨hv, hc, hh, _⟩ := pure_ok.1 h
        subst hv hc hh
        cases hx with
        | map he =>
          rename_i e
          obtain ⟨e2, ents, clock, m1, m2, m3⟩ := hr.obj i _ hi
          rw [he] at m1; cases m1
          refine ⟨rfl, rfl, goInt ents.size, by simp [Builtin.len_, hat, run_underlying hu, run_getMap m2], ?_⟩
          have := m3.length
          rw [this, Array.length_toList]
          exact .int _ _
end
end Go.Sx
namespace Go.Sx
section
variable {P : Program} {w0 : World} {F : Nat → Prop} {E : Env} {H : Heap} {w : World}
def Quiet (P : Program) {α : Type} (m : Sem α) : Prop := ∀ w w2 a w1, m.run P w = .ok a w1 → w1 = w ∧ m.run P w2 = .ok a w2
def Never (P : Program) {α : Type} (m : Sem α) : Prop := ∀ w a w1, m.run P w ≠ .ok a w1
theorem Never.quiet {α : Type} {m : Sem α} (h : Never P m) : Quiet P m := fun w _ a w1 e => absurd e (h w a w1)
theorem Quiet.pure {α : Type} (a : α) : Quiet P (Pure.pure a : Sem α) := fun w w2 b w1 h => by
  simp only [Sem.run_pure, Result.ok.injEq] at h
  obtain ⟨rfl, rfl⟩ := h
  exact ⟨rfl, rfl⟩
theorem Quiet.bind {α β : Type} {m : Sem α} {f : α → Sem β} (h : Quiet P m) (hf : ∀ a, (∃ w w', m.run P w = .ok a w') → Quiet P (f a)) : Quiet P (m >>= f) := fun w w2 b w1 e => by
  rw [Sem.run_bind] at e ⊢
  cases hm : m.run P w with
  | halt x w' => rw [hm] at e; cases e
  | ok a w' =>
    rw [hm] at e
    obtain ⟨rfl, h2⟩ := h w w2 a w' hm
    obtain ⟨rfl, h3⟩ := hf a ⟨_, _, hm⟩ _ w2 b w1 e
    exact ⟨rfl, by rw [h2]; exact h3⟩
theorem never_stuck {α : Type} (why : String) : Never P (stuck why : Sem α) := fun w a w1 h => by simp at h
theorem never_unsupported {α : Type} (u : Unsupported) : Never P (unsupported u : Sem α) := fun w a w1 h => by simp at h
theorem never_bind {α β : Type} {m : Sem α} {f : α → Sem β} (h : ∀ a, Never P (f a)) : Never P (m >>= f) := fun w b w1 e => by
  rw [Sem.run_bind] at e
  cases hm : m.run P w with
  | halt x w' => rw [hm] at e; cases e
  | ok a w' => rw [hm] at e; exact h a _ _ _ e
theorem never_bind' {α β : Type} {m : Sem α} {f : α → Sem β} (h : Never P m) : Never P (m >>= f) := fun w b w1 e => by
  rw [Sem.run_bind] at e
  cases hm : m.run P w with
  | halt x w' => rw [hm] at e; cases e
  | ok a w' => exact h _ _ _ hm
theorem never_panic {α : Type} (v : Value) : Never P (goPanic v : Sem α) := fun w a w1 h => by simp at h
theorem never_runtime {α : Type} (e : RuntimeError) : Never P (runtimePanic e : Sem α) := by
  unfold runtimePanic
  refine never_bind fun p => ?_
  cases e <;> simp only <;> first
    | exact never_panic _
    | exact never_bind fun _ => never_bind fun _ => never_panic _
theorem quiet_underlying (t : TypeId) : Quiet P (underlying t) := fun w w2 a w1 h => by
  cases hu : P.underlying t with
  | none => simp [underlying, hu] at h
  | some d => rw [run_underlying hu] at h ⊢; cases h; exact ⟨rfl, rfl⟩
theorem quiet_program : Quiet P program := fun w w2 a w1 h => by simp only [run_program, Result.ok.injEq] at h ⊢; exact ⟨h.2.symm, h.1, trivial⟩
theorem quiet_info (t : TypeId) : Quiet P (typeInfo t) := fun w w2 a w1 h => by
  cases hu : P.info? t with
  | none => simp [typeInfo, hu] at h
  | some d => rw [run_info hu] at h ⊢; cases h; exact ⟨rfl, rfl⟩
theorem quiet_size (t : TypeId) : Quiet P (sizeOf t) := Quiet.bind (quiet_info t) fun _ _ => Quiet.pure _
theorem quiet_agg (t : TypeId) : Quiet P (isAgg t) := by
  unfold isAgg
  refine Quiet.bind (quiet_underlying t) fun d _ => ?_
  cases d <;> exact Quiet.pure _
theorem quiet_part (t : TypeId) (cs : Array Value) (off : Nat) : Quiet P (part t cs off) := by
  unfold part
  refine Quiet.bind (quiet_agg t) fun b _ => ?_
  cases b
  · simp only [Bool.false_eq_true, if_false]
    cases cs[off]? with
    | none => exact (never_stuck _).quiet
    | some v => exact Quiet.pure _
  · simp only [if_true]
    exact Quiet.bind (quiet_size t) fun _ _ => Quiet.pure _
theorem plainS_B {v : Value} (h : plainS v = true) : plainB v = true := by cases v <;> first | exact h | (simp [plainS] at h)
theorem part_plain {t : TypeId} {cs : Array Value} {off : Nat} {v : Value} {w1 : World} (hc : plainB (.agg cs) = true) (h : (part t cs off).run P w = .ok v w1) : plainB v = true := by
  unfold part at h
  rw [Sem.run_bind] at h
  cases hb : (isAgg t).run P w with
  | halt x w' => rw [hb] at h; cases h
  | ok b w' =>
    rw [hb] at h
    cases b
    · simp only [Result.andThen_ok, Bool.false_eq_true, if_false] at h
      cases hx : cs[off]? with
      | none => rw [hx] at h; simp at h
      | some u =>
        rw [hx] at h
        simp only [Sem.run_pure, Result.ok.injEq] at h
        obtain ⟨rfl, _⟩ := h
        exact plainS_B (List.all_eq_true.1 hc u (by
          have : cs.toList[off]? = some u := by simpa using hx
          exact List.mem_of_getElem? this))
    · simp only [Result.andThen_ok, if_true, Sem.run_bind] at h
      cases hs : (sizeOf t).run P w' with
      | halt x w'' => rw [hs] at h; cases h
      | ok n w'' =>
        rw [hs] at h
        simp only [Result.andThen_ok, Sem.run_pure, Result.ok.injEq] at h
        obtain ⟨rfl, _⟩ := h
        show ((cs.extract off (off + n)).toList.all plainS) = true
        rw [List.all_eq_true]
        intro x hx
        rw [Array.toList_extract] at hx
        have hx2 : x ∈ cs.toList := List.mem_of_mem_drop (List.mem_of_mem_take (by simpa [List.extract_eq_take_drop] using hx))
        exact List.all_eq_true.1 hc x hx2
theorem quiet_forL {α β : Type} (f : α → β → Sem (ForInStep β)) (hf : ∀ a b, Quiet P (f a b)) : ∀ (l : List α) (b : β), Quiet P (forIn l b f)
  | [], b => by simp only [List.forIn_nil]; exact Quiet.pure _
  | a :: l, b => by
    simp only [List.forIn_cons]
    refine Quiet.bind (hf a b) fun r _ => ?_
    cases r with
    | done b => exact Quiet.pure _
    | yield b => exact quiet_forL f hf l b
theorem quiet_eq : ∀ (d : Nat) (t : TypeId) (x y : Value), plainB x = true → plainB y = true → Quiet P (Op.equalIn d t x y)
  | 0, t, x, y, hx, hy => by unfold Op.equalIn; exact (never_unsupported _).quiet
  | d + 1, t, x, y, hx, hy => by
    have step : ∀ e xs ys o1 o2 (K : Bool → Sem (ForInStep (Option Bool × PUnit))), plainB (.agg xs) = true → plainB (.agg ys) = true → (∀ b, Quiet P (K b)) →
        Quiet P (do let a ← part e xs o1; let b ← part e ys o2; let r ← Op.equalIn d e a b; K r) := by
      intro e xs ys o1 o2 K h1 h2 hK
      refine Quiet.bind (quiet_part _ _ _) fun a ha => Quiet.bind (quiet_part _ _ _) fun b hb => Quiet.bind (quiet_eq d e a b ?_ ?_) fun r _ => hK r
      · obtain ⟨w, w', ha⟩ := ha; exact part_plain h1 ha
      · obtain ⟨w, w', hb⟩ := hb; exact part_plain h2 hb
    unfold Op.equalIn
    refine Quiet.bind (quiet_underlying t) fun u _ => ?_
    cases x <;> first | (simp [plainB, plainS] at hx; done) | skip
    all_goals cases y <;> first | (simp [plainB, plainS] at hy; done) | skip
    all_goals cases u <;> (try simp only) <;> first
      | exact Quiet.pure _
      | exact (never_stuck _).quiet
      | exact (never_unsupported _).quiet
      | skip
    · split
      · exact Quiet.pure _
      · exact (never_stuck _).quiet
    · refine Quiet.bind (quiet_size _) fun n _ => Quiet.bind ?_ fun s _ => ?_
      · rw [Std.Legacy.Range.forIn_eq_forIn_range']
        refine quiet_forL _ (fun i b => step _ _ _ _ _ _ hx hy fun r => ?_) _ _
        split <;> exact Quiet.pure _
      · split <;> exact Quiet.pure _
    · refine Quiet.bind quiet_program fun p _ => ?_
      split
      · exact (never_bind' (never_unsupported _)).quiet
      · refine Quiet.bind ?_ fun s _ => ?_
        · rw [← Array.forIn_toList]
          refine quiet_forL _ (fun f b => ?_) _ _
          split
          · refine step _ _ _ _ _ _ hx hy fun r => ?_
            split <;> exact Quiet.pure _
          · exact Quiet.pure _
        · split <;> exact Quiet.pure _
theorem quiet_int {op : BinOp} {x y : Int} : Quiet P (Op.intCmp op x y) := by
  unfold Op.intCmp
  split <;> first | exact Quiet.pure _ | exact (never_stuck _).quiet
theorem quiet_arith {op : BinOp} {k : IntKind} {x y : Int} : Quiet P (Op.intArith op k x y) := by
  unfold Op.intArith
  split <;> first | exact Quiet.pure _ | exact (never_stuck _).quiet
theorem quiet_div {op : BinOp} {k : IntKind} {x y : Int} : Quiet P (Op.intDiv op k x y) := by
  unfold Op.intDiv
  split
  · exact (never_runtime _).quiet
  · split <;> first | exact Quiet.pure _ | exact (never_stuck _).quiet
theorem quiet_bits {op : BinOp} {k : IntKind} {x y : Int} : Quiet P (Op.intBits op k x y) := by
  unfold Op.intBits
  simp only
  split <;> first | exact Quiet.pure _ | exact (never_stuck _).quiet
theorem quiet_shift {op : BinOp} {k j : IntKind} {x y : Int} : Quiet P (Op.shift op k x j y) := by
  unfold Op.shift
  split
  · exact (never_runtime _).quiet
  · simp only
    split <;> first | exact Quiet.pure _ | exact (never_stuck _).quiet
theorem quiet_string {op : BinOp} {x y : ByteArray} : Quiet P (Op.stringOp op x y) := by
  unfold Op.stringOp
  simp only
  split <;> first
    | exact Quiet.pure _
    | exact (never_stuck _).quiet
    | (split <;> first | exact Quiet.pure _ | exact (never_unsupported _).quiet)
theorem quiet_bin {op : BinOp} {t : TypeId} {x y : Value} (hx : plainB x = true) (hy : plainB y = true) : Quiet P (binOp op t x y) := by
  have hq : Quiet P (Op.equal t x y) := quiet_eq _ t x y hx hy
  cases x <;> first | (simp [plainB, plainS] at hx; done) | skip
  all_goals cases y <;> first | (simp [plainB, plainS] at hy; done) | skip
  all_goals cases op <;> simp only [binOp] <;> first
    | exact (never_stuck _).quiet
    | exact quiet_string
    | exact quiet_shift
    | exact Quiet.bind hq fun _ _ => Quiet.pure _
    | (split <;> first
        | exact (never_stuck _).quiet
        | exact quiet_int
        | exact quiet_arith
        | exact quiet_div
        | exact quiet_bits)
theorem quiet_un {op : UnOp} {x : Value} (hx : plainB x = true) : Quiet P (Op.unary op x) := by
  cases x <;> first | (simp [plainB, plainS] at hx; done) | skip
  all_goals cases op <;> simp only [Op.unary] <;> first
    | exact (never_stuck _).quiet
    | exact Quiet.pure _
    | exact quiet_arith
    | exact quiet_bits
theorem pure_run {m : Sem Value} {v : Value} (h : pureRun P m = some v) (hq : Quiet P m) (w : World) : m.run P w = .ok v w ∧ cleanB v = true := by
  unfold pureRun at h
  split at h
  · rename_i u w1 hu
    cases hc : cleanB u with
    | true => rw [hc] at h; cases h; exact ⟨(hq _ w _ _ hu).2, hc⟩
    | false => rw [hc] at h; cases h
  · cases h
theorem guard_run {op : BinOp} {t : TypeId} {x y : Operand} {a b : Value} (ha : a ≠ .nilIface) (hg : (∀ cs, a ≠ .agg cs) ∨ P.eqGuardType P.depth t = false) (w : World) :
    (eqGuard op t x y a b).run P w = .ok () w := by
  unfold eqGuard
  cases a <;> first | (exact absurd rfl ha) | skip
  case agg cs =>
    have hg := hg.resolve_left (fun h => h cs rfl)
    cases b <;> cases op <;> simp [hg]
  all_goals cases op <;> simp
theorem bin_sound [Den] [Asm] [AsmOK P] {op : BinOp} {t : TypeId} {x y : Operand} {a a' b b' v : Value} {c c' : Nat} {H' : Heap} {L : Lg} (h : binA P op t a b c H = .ok v c' H' L) (ha : VR E a a') (hb : VR E b b') (w : World) :
    c' = c ∧ H' = H ∧ ∃ v', (do eqGuard op t x y a' b'; binOp op t a' b' : Sem Value).run P w = .ok v' w ∧ VR E v v' := by
  unfold binA at h
  cases hp : (plainB a && plainB b) with
  | true =>
    rw [hp] at h
    simp only [cond_true] at h
    simp only [Bool.and_eq_true] at hp
    replace h := bguard h
    obtain ⟨_, hg, h⟩ := h
    obtain ⟨h1, hc, hh, _⟩ := opt_ok.1 h
    have ea := ha.plain hp.1
    have eb := hb.plain hp.2
    subst ea eb hc hh
    obtain ⟨h2, h3⟩ := pure_run h1 (quiet_bin hp.1 hp.2) w
    refine ⟨rfl, rfl, v, ?_, VR.clean h3⟩
    have hguard := guard_run (P := P) (op := op) (t := t) (x := x) (y := y) (a := a') (b := b') (fun e => by rw [e] at hp; simp [plainB, plainS] at hp) (by
      cases hag : isAggV a' with
      | true => right; rw [hag] at hg; simpa using hg
      | false => left; intro cs e; rw [e] at hag; simp [isAggV] at hag) w
    rw [Sem.run_bind, hguard, Result.andThen_ok]; exact h2
  | false =>
    rw [hp] at h
    simp only [cond_false] at h
    cases hsy : (symB a || symB b) with
    | true =>
    rw [hsy] at h
    simp only [cond_true] at h
    obtain ⟨h1, hc, hh, _⟩ := opt_ok.1 h
    obtain ⟨r', k1, k2⟩ := AsmOK.ok (P := P) _ _ h1 E a' b' ha hb x y w
    exact ⟨hc, hh, r', k2, k1⟩
    | false =>
    rw [hsy] at h
    simp only [cond_false] at h
    have key : ∀ r, nilEq P t a b = some r → (Op.equal t a' b').run P w = .ok r w ∧ a' ≠ .nilIface ∧ (∀ cs, a' ≠ .agg cs) ∧
        binOp .eql t a' b' = (do let r ← Op.equal t a' b'; pure (.bool r)) ∧ binOp .neq t a' b' = (do let r ← Op.equal t a' b'; pure (.bool (!r))) := by
      intro r hn
      unfold nilEq at hn
      cases hu : P.underlying t with
      | none => rw [hu] at hn; cases hn
      | some d =>
        rw [hu] at hn
        cases ha <;> (try (cases d <;> simp only [reduceCtorEq] at hn; done)) <;> cases hb <;> (try (cases d <;> simp only [reduceCtorEq] at hn; done)) <;>
          cases d <;> simp only [reduceCtorEq, Option.some.injEq] at hn <;>
          (subst hn; refine ⟨?_, by simp, by simp, rfl, rfl⟩; show (Op.equalIn (9999 + 1) t _ _).run P w = _; unfold Op.equalIn; rw [Sem.run_bind, run_underlying hu, Result.andThen_ok]; rfl)
    cases op <;> simp only at h <;> first | (exact (bad_ok.1 h).elim) | skip
    all_goals
      replace h := bopt h
      obtain ⟨r, _, hr, h⟩ := h
      obtain ⟨hv, hc, hh, _⟩ := pure_ok.1 h
      subst hv hc hh
      obtain ⟨k1, k2, k3, k4, k5⟩ := key r hr
      refine ⟨rfl, rfl, _, ?_, .bool _⟩
      rw [Sem.run_bind, guard_run k2 (.inl k3) w, Result.andThen_ok]
    · rw [k4, Sem.run_bind, k1]; rfl
    · rw [k5, Sem.run_bind, k1]; rfl
theorem copy_sound [Den] {ats : Array TypeId} {ty : TypeId} {args args' : List Value} {v : Value} {c c' : Nat} {H' : Heap} {L : Lg} (h : copyA P ats.toList args c H = .ok v c' H' L) (hr : HR P w0 F E H w) (ha : LR E args args') :
    ∃ v' w', (Builtin.copy_ ats ty args'.toArray).run P w = .ok v' w' ∧ HR P w0 F E H' w' ∧ VR E v v' := by
  generalize hal : ats.toList = al at h
  unfold copyA at h
  split at h
  · rename_i t ts base dLen dCap x
    obtain ⟨d', r1, rfl, hd, ha⟩ := ha.cons_inv
    obtain ⟨x', r2, rfl, hx, ha⟩ := ha.cons_inv
    have := ha.nil_inv
    subst this
    have hats : ats[0]? = some t := by rw [← Array.getElem?_toList, hal]; rfl
    replace h := bopt h
    obtain ⟨e, _, he, h⟩ := h
    replace h := bopt h
    obtain ⟨size, _, hsz, h⟩ := h
    replace h := bopt h
    obtain ⟨sn, _, hn, h⟩ := h
    replace h := bind_ok.1 h
    obtain ⟨cells, c1, h1, l1, l2, hc0, h, _⟩ := h
    have hu := elem_under he
    have hlen := run_len (P := P) hn hx w
    obtain ⟨q1, q2, q3, cells', q4, q5⟩ := src_sound hc0 hr hx hn (Nat.min_le_left _ _)
    subst q1 q2
    have hcells := q5 w rfl
    have hs1 := run_size hsz w
    have run : ∀ {b' : Option Addr} {cp : Nat} {w' : World}, (∀ a, b' = some a → (storeCells a cells').run P w = .ok () w') → (b' = none → w' = w) →
        (Builtin.copy_ ats ty #[.slice b' dLen cp, x']).run P w = .ok (goInt (Nat.min sn dLen)) w' := by
      intro b' cp w' k1 k2
      unfold Builtin.copy_
      simp only [hats, List.getElem?_toArray, List.getElem?_cons_zero, List.getElem?_cons_succ]
      rw [Sem.run_bind, run_underlying hu, Result.andThen_ok]
      simp only []
      rw [Sem.run_bind, hlen, Result.andThen_ok, Sem.run_bind, hs1, Result.andThen_ok, Sem.run_bind, hcells, Result.andThen_ok]
      cases b' with
      | none => rw [k2 rfl]; rfl
      | some a => simp only []; rw [Sem.run_bind, k1 a rfl]; rfl
    cases hd with
    | nilS =>
      obtain ⟨p1, p2, p3, _⟩ := pure_ok.1 h
      subst p1 p2 p3
      exact ⟨_, w, run (fun a e => by cases e) (fun _ => rfl), hr, .int _ _⟩
    | weS bb =>
      obtain ⟨p1, p2, p3, _⟩ := pure_ok.1 h
      subst p1 p2 p3
      have hm : Nat.min sn 0 = 0 := Nat.min_zero _
      rw [hm, Nat.zero_mul] at q3
      have hc' : cells' = [] := List.eq_nil_of_length_eq_zero (by rw [← q4.len]; exact q3)
      subst hc'
      exact ⟨_, w, run (fun a e => rfl) (fun _ => rfl), hr, .int _ _⟩
    | anS bb cc =>
      obtain ⟨p1, p2, p3, _⟩ := pure_ok.1 h
      subst p1 p2 p3
      have hm : Nat.min sn 0 = 0 := Nat.min_zero _
      rw [hm, Nat.zero_mul] at q3
      have hc' : cells' = [] := List.eq_nil_of_length_eq_zero (by rw [← q4.len]; exact q3)
      subst hc'
      exact ⟨_, w, run (fun a e => rfl) (fun _ => rfl), hr, .int _ _⟩
    | sl h1 h2 h3 =>
      rename_i i o e0 a'
      simp only [wrB_eq] at h
      replace h := bind_ok.1 h
      obtain ⟨u, c2, g2, l3, l4, hw0, h, _⟩ := h
      obtain ⟨p1, p2, p3, _⟩ := pure_ok.1 h
      subst p1 p2 p3
      obtain ⟨_, w', k1, k2, _⟩ := wrN_sound (k := 0) hw0 hr q4 h1
      refine ⟨_, w', run (fun a e => ?_) (fun e => by cases e), k2, .int _ _⟩
      cases e
      rcases h3 with h3 | h3
      · rw [h3]; exact k1
      · have hm : Nat.min sn dLen = 0 := by
          have : dLen = 0 := by omega
          subst this; exact Nat.min_zero _
        rw [hm, Nat.zero_mul] at q3
        have hc' : cells' = [] := List.eq_nil_of_length_eq_zero (by rw [← q4.len]; exact q3)
        subst hc'
        have hw'' : w' = w := by
          have : (Result.ok () w : Result Unit) = .ok () w' := k1
          cases this; rfl
        rw [hw'']; rfl
  · exact (bad_ok.1 h).elim
theorem arrayAt_sound [Den] {t : TypeId} {x x' v : Value} (h : arrayAtA P t x = some v) (hx : VR E x x') (w : World) : ∃ v', (Instr.arrayAt t x').run P w = .ok v' w ∧ VR E v v' := by
  unfold arrayAtA at h
  split at h
  · rename_i n e a len cp hu
    cases hb : (Nat.blt 0 n && Nat.ble n len) with
    | false => rw [hb] at h; simp at h
    | true =>
      rw [hb] at h
      simp only [cond_true, Option.some.injEq] at h
      simp only [Bool.and_eq_true] at hb
      have h1 := blt_iff.1 hb.1
      have h2 := Nat.le_of_ble_eq_true hb.2
      subst h
      cases hx with
      | sl g1 g2 g3 =>
        rcases g3 with g3 | g3
        · subst g3
          refine ⟨_, ?_, .ptr g1⟩
          unfold Instr.arrayAt
          rw [Sem.run_bind, run_underlying hu, Result.andThen_ok]
          simp only []
          rw [if_neg (by omega)]
          rfl
        · omega
  · cases h
theorem minmax_sound [Den] {mx : Bool} {ats : Array TypeId} {ty : TypeId} {args args' : List Value} {v : Value} (h : minmaxA mx args = some v) (ha : LR E args args') (w : World) :
    (if mx then Builtin.max_ ats ty args'.toArray else Builtin.min_ ats ty args'.toArray).run P w = .ok v w ∧ VR E v v := by
  unfold minmaxA at h
  split at h
  · rename_i k x k2 y
    obtain ⟨x', r1, rfl, hx, ha⟩ := ha.cons_inv
    obtain ⟨y', r2, rfl, hy, ha⟩ := ha.cons_inv
    have := ha.nil_inv
    subst this
    cases hx
    cases hy
    simp only [Option.some.injEq] at h
    subst h
    cases mx
    · exact ⟨rfl, .int _ _⟩
    · exact ⟨rfl, .int _ _⟩
  · cases h
theorem repL_get (z : List Value) (hz : 0 < z.length) : ∀ (c k : Nat), (repL z c)[k]? = if k < c * z.length then z[k % z.length]? else none
  | 0, k => by simp [repL]
  | c + 1, k => by
    rw [repL, Nat.add_mul, Nat.one_mul]
    by_cases h : k < z.length
    · rw [List.getElem?_append_left h, if_pos (by omega), Nat.mod_eq_of_lt h]
    · rw [List.getElem?_append_right (by omega), repL_get z hz c]
      by_cases h2 : k < c * z.length + z.length
      · rw [if_pos (by omega), if_pos h2, ← Nat.mod_eq_sub_mod (show z.length ≤ k from by omega)]
      · rw [if_neg (by omega), if_neg h2]
theorem repL_len (z : List Value) : ∀ c, (repL z c).length = c * z.length
  | 0 => by simp [repL]
  | c + 1 => by rw [repL, List.length_append, repL_len z c, Nat.add_mul, Nat.one_mul, Nat.add_comm]
theorem makeSlice_sound [Den] {t : TypeId} {lv lv' cv cv' v : Value} {c c' : Nat} {H' : Heap} {L : Lg} (h : makeSliceA P t lv cv c H = .ok v c' H' L) (hr : HR P w0 F E H w) (hl : VR E lv lv') (hc : VR E cv cv') :
    ∃ v' w' E', (Instr.makeSlice t lv' cv').run P w = .ok v' w' ∧ E.le E' ∧ HR P w0 F E' H' w' ∧ VR E' v v' := by
  unfold makeSliceA at h
  split at h
  · rename_i k1 l k2 m
    cases hl
    cases hc
    replace h := bopt h
    obtain ⟨e, _, he, h⟩ := h
    replace h := bopt h
    obtain ⟨size, _, hsz, h⟩ := h
    replace h := bopt h
    obtain ⟨bytes, _, hby, h⟩ := h
    replace h := bguard h
    obtain ⟨_, hg, h⟩ := h
    replace h := bopt h
    obtain ⟨z, _, hz, h⟩ := h
    replace h := bguard h
    obtain ⟨_, hg2, h⟩ := h
    simp only [Bool.and_eq_true] at hg hg2
    obtain ⟨⟨⟨⟨⟨g1, g2⟩, g3⟩, g4⟩, g5⟩, g6⟩ := hg
    have g1 := Nat.le_of_ble_eq_true g1
    have g2 := blt_iff.1 g2
    have g3 := blt_iff.1 g3
    have g4 := Nat.le_of_ble_eq_true g4
    have g6 := blt_iff.1 g6
    have hzs := Nat.eq_of_beq_eq_true hg2.1
    have hu := elem_under he
    obtain ⟨ib, hib, hibb⟩ := bytes_info hby
    replace h := bind_ok.1 h
    obtain ⟨p, c1, h1, l1, l2, hp0, h, _⟩ := h
    unfold newRowA at hp0
    replace hp0 := bguard hp0
    obtain ⟨_, ho, hp0⟩ := hp0
    replace hp0 := bind_ok.1 hp0
    obtain ⟨j, c2, h2, l3, l4, hn0, hp0, _⟩ := hp0
    obtain ⟨p1, p2, p3, _⟩ := pure_ok.1 hp0
    subst p1 p2 p3
    simp only at h
    obtain ⟨p1, p2, p3, _⟩ := pure_ok.1 h
    subst p1 p2 p3
    obtain ⟨j1, j2, hj, j3, _⟩ := newA_inv hn0
    subst j1 j2 j3
    have hzl : z.cells.toList.length = size := by simpa using hzs
    have hlr := repLR (VR.clean (E := E) hg2.2).cells m
    obtain ⟨q1, q2⟩ := hr.newRow (T := e) (more := []) (cap := m) hj hlr ho (fun n hn => by
      rw [hsz] at hn; cases hn
      rw [List.append_nil, repL_len, hzl]; exact Nat.le_refl _)
    rw [List.append_nil] at q2
    have hE : Env.upd E j ⟨w.heap.size, 0, m⟩ j = some ⟨w.heap.size, 0, m⟩ := by simp [Env.upd]
    have hv := VR.sl (o := 0) (n := l) (c := m) (a' := ⟨w.heap.size, 0, none⟩) hE (by unfold capOf; rw [if_pos g6]; exact g1) (.inl rfl)
    rw [show capOf (⟨w.heap.size, 0, m⟩ : EI) m = m from by unfold capOf; rw [if_pos g6]] at hv
    refine ⟨_, _, _, ?_, q1, q2, hv⟩
    unfold HALF at g6
    have hw : ∀ n : Nat, n < 2305843009213693952 → IntKind.i64.wrap (Int.ofNat n) = (n : Int) := fun n hn => by
      have h1 : (Int.ofNat n) % (2 ^ 64 : Int) = (n : Int) := by
        have : (2 ^ 64 : Int) = 18446744073709551616 := by decide
        rw [this]
        exact Int.emod_eq_of_lt (by simp) (by simp; omega)
      have h2 : (2 ^ (64 - 1) : Int) = 9223372036854775808 := by decide
      show (let m := (Int.ofNat n) % (2 ^ 64 : Int); if true && decide (m ≥ (2 ^ (64 - 1) : Int)) then m - (2 ^ 64 : Int) else m) = (n : Int)
      simp only [h1, h2, Bool.true_and, decide_eq_true_eq]
      rw [if_neg (by omega)]
    have hb48 : ((2 : Int) ^ 48) = 281474976710656 := by decide
    have htl : ∀ n : Nat, n * bytes ≤ 16777216 → (((n : Int) < 0 : Bool) || ((bytes : Int) * (n : Int) > 2 ^ 48 : Bool)) = false := fun n hn => by
      have : ((bytes : Int) * (n : Int)) = ((n * bytes : Nat) : Int) := by rw [Nat.mul_comm]; simp
      rw [this, hb48]
      simp only [Bool.or_eq_false_iff, decide_eq_false_iff_not]
      omega
    have hcells : (Array.range (m * size)).map (fun x => z.cells[x % z.cells.size]!) = (repL z.cells.toList m).toArray := by
      apply Array.toList_inj.1
      apply List.ext_getElem?
      intro k
      rw [repL_get _ (by omega), hzl]
      simp only [Array.toList_map, Array.toList_range, List.getElem?_map]
      by_cases hk : k < m * size
      · rw [List.getElem?_range hk, if_pos hk]
        have hlt : k % size < z.cells.size := by rw [hzs]; exact Nat.mod_lt _ g3
        simp only [Option.map_some, hzs]
        rw [Array.getElem?_toList, Array.getElem?_eq_getElem hlt, getElem!_pos z.cells (k % size) hlt]
      · rw [if_neg hk, List.getElem?_eq_none (by simp; omega)]
        rfl
    have hm0 : ¬ (m * size = 0) := by have := Nat.mul_pos g2 g3; omega
    unfold Instr.makeSlice
    rw [Sem.run_bind, run_underlying hu, Result.andThen_ok]
    simp only []
    rw [Sem.run_bind, show (asInt (.int k1 (Int.ofNat l))).run P w = .ok (Int.ofNat l) w from rfl, Result.andThen_ok, Sem.run_bind, show (asInt (.int k2 (Int.ofNat m))).run P w = .ok (Int.ofNat m) w from rfl, Result.andThen_ok,
      Sem.run_bind, run_info hib, Result.andThen_ok]
    have n1 := htl m g4
    have n2 : decide ((l : Int) < 0) = false := by simp
    have n3 : decide ((l : Int) > (m : Int)) = false := by simp; omega
    simp only [hw l (by omega), hw m g6, hibb, n1, n2, n3, Bool.or_self, Bool.false_eq_true, if_false]
    simp only [Int.toNat_natCast, Sem.run_bind, run_askRoom, run_size hsz, Result.andThen_ok, if_neg hm0, run_zero hz, Sem.run_pure, run_newRow, hcells]
  · exact (bad_ok.1 h).elim
end
end Go.Sx

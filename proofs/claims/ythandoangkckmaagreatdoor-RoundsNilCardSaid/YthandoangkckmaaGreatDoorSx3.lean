import Derived.Test.YthandoangkckmaaGreatDoorSx2
import Derived.Laws.Sem
namespace Go.Sx

/-! ## Tries -/
theorem frc_eq {α : Type} (k : Nat) (K : Nat → α) : frc k K = K k := rfl
def unpa : Pa → Nat
  | .e => 0
  | .a p => unpa p * 4 + 1
  | .b p => unpa p * 4 + 2
  | .c p => unpa p * 4 + 3
  | .d p => unpa p * 4 + 4
theorem paF_zero (f : Nat) : paF (f + 1) 0 = .e := rfl
theorem paF_succ (f j : Nat) : paF (f + 1) (j + 1) = bif Nat.beq (j % 4) 0 then .a (paF f (j / 4)) else bif Nat.beq (j % 4) 1 then .b (paF f (j / 4)) else bif Nat.beq (j % 4) 2 then .c (paF f (j / 4)) else .d (paF f (j / 4)) := by
  show Bool.rec (motive := fun _ => Pa) (Bool.rec (motive := fun _ => Pa) (Bool.rec (motive := fun _ => Pa) (.d (paF f (j / 4))) (.c (paF f (j / 4))) (Nat.beq (j % 4) 2)) (.b (paF f (j / 4))) (Nat.beq (j % 4) 1)) (.a (paF f (j / 4))) (Nat.beq (j % 4) 0) = _
  cases Nat.beq (j % 4) 0 <;> cases Nat.beq (j % 4) 1 <;> cases Nat.beq (j % 4) 2 <;> rfl
theorem unpa_paF : ∀ (f k : Nat), k < f → unpa (paF f k) = k
  | 0, k, h => by omega
  | f + 1, 0, _ => rfl
  | f + 1, j + 1, h => by
    have ih := unpa_paF f (j / 4) (by omega)
    have hb : ∀ a b : Nat, Nat.beq a b = true ↔ a = b := fun a b => ⟨Nat.eq_of_beq_eq_true, fun e => by rw [e]; exact Nat.beq_refl b⟩
    rw [paF_succ]
    cases h0 : Nat.beq (j % 4) 0 with
    | true => have := (hb _ _).1 h0; simp only [cond_true, unpa, ih]; omega
    | false =>
      simp only [cond_false]
      have n0 : j % 4 ≠ 0 := fun e => by rw [(hb _ _).2 e] at h0; cases h0
      cases h1 : Nat.beq (j % 4) 1 with
      | true => have := (hb _ _).1 h1; simp only [cond_true, unpa, ih]; omega
      | false =>
        simp only [cond_false]
        have n1 : j % 4 ≠ 1 := fun e => by rw [(hb _ _).2 e] at h1; cases h1
        cases h2 : Nat.beq (j % 4) 2 with
        | true => have := (hb _ _).1 h2; simp only [cond_true, unpa, ih]; omega
        | false =>
          have n2 : j % 4 ≠ 2 := fun e => by rw [(hb _ _).2 e] at h2; cases h2
          simp only [cond_false, unpa, ih]; omega
theorem unpa_pa (k : Nat) : unpa (pa k) = k := unpa_paF _ _ (by omega)
theorem pa_inj {j k : Nat} (h : pa j = pa k) : j = k := by rw [← unpa_pa j, ← unpa_pa k, h]
theorem Tr.getP_mkP {α : Type} (v : α) : ∀ (p : Pa), (Tr.mkP v p).getP p = some v
  | .e => rfl
  | .a p => Tr.getP_mkP v p
  | .b p => Tr.getP_mkP v p
  | .c p => Tr.getP_mkP v p
  | .d p => Tr.getP_mkP v p
theorem Tr.getP_mkP_ne {α : Type} (v : α) : ∀ (p q : Pa), q ≠ p → (Tr.mkP v p).getP q = none
  | .e, q, h => by cases q <;> first | rfl | exact absurd rfl h
  | .a p, q, h => by cases q <;> first | rfl | exact Tr.getP_mkP_ne v p _ (fun e => h (congrArg Pa.a e))
  | .b p, q, h => by cases q <;> first | rfl | exact Tr.getP_mkP_ne v p _ (fun e => h (congrArg Pa.b e))
  | .c p, q, h => by cases q <;> first | rfl | exact Tr.getP_mkP_ne v p _ (fun e => h (congrArg Pa.c e))
  | .d p, q, h => by cases q <;> first | rfl | exact Tr.getP_mkP_ne v p _ (fun e => h (congrArg Pa.d e))
theorem Tr.getP_setP {α : Type} (t : Tr α) (p : Pa) (v : α) : (t.setP p v).getP p = some v := by
  induction t generalizing p with
  | nil => exact Tr.getP_mkP v p
  | node u a b c d ia ib ic id =>
    cases p with
    | e => rfl
    | a p => exact ia p
    | b p => exact ib p
    | c p => exact ic p
    | d p => exact id p
theorem Tr.getP_setP_ne {α : Type} (t : Tr α) (p q : Pa) (v : α) (h : q ≠ p) : (t.setP p v).getP q = t.getP q := by
  induction t generalizing p q with
  | nil => exact Tr.getP_mkP_ne v p q h
  | node u a b c d ia ib ic id =>
    cases p with
    | e => cases q <;> first | rfl | exact absurd rfl h
    | a p => cases q <;> first | rfl | exact ia p _ (fun e => h (congrArg Pa.a e))
    | b p => cases q <;> first | rfl | exact ib p _ (fun e => h (congrArg Pa.b e))
    | c p => cases q <;> first | rfl | exact ic p _ (fun e => h (congrArg Pa.c e))
    | d p => cases q <;> first | rfl | exact id p _ (fun e => h (congrArg Pa.d e))
theorem Tr.setP_mkP {α : Type} (u v : α) : ∀ (p : Pa), (Tr.mkP u p).setP p v = Tr.mkP v p
  | .e => rfl
  | .a p => congrArg (fun t => Tr.node none t .nil .nil .nil) (Tr.setP_mkP u v p)
  | .b p => congrArg (fun t => Tr.node none .nil t .nil .nil) (Tr.setP_mkP u v p)
  | .c p => congrArg (fun t => Tr.node none .nil .nil t .nil) (Tr.setP_mkP u v p)
  | .d p => congrArg (fun t => Tr.node none .nil .nil .nil t) (Tr.setP_mkP u v p)
theorem Tr.setP_setP {α : Type} (t : Tr α) (p : Pa) (u v : α) : (t.setP p u).setP p v = t.setP p v := by
  induction t generalizing p with
  | nil => exact Tr.setP_mkP u v p
  | node w a b c d ia ib ic id =>
    cases p with
    | e => rfl
    | a p => exact congrArg (fun t => Tr.node w t b c d) (ia p)
    | b p => exact congrArg (fun t => Tr.node w a t c d) (ib p)
    | c p => exact congrArg (fun t => Tr.node w a b t d) (ic p)
    | d p => exact congrArg (fun t => Tr.node w a b c t) (id p)
theorem Tr.get_eq {α : Type} (t : Tr α) (k : Nat) : t.get k = t.getP (pa k) := rfl
theorem Tr.set_eq {α : Type} (t : Tr α) (k : Nat) (v : α) : t.set k v = t.setP (pa k) v := rfl
theorem Tr.get_nil {α : Type} (k : Nat) : (Tr.nil : Tr α).get k = none := rfl
theorem Tr.get_set {α : Type} (t : Tr α) (k j : Nat) (v : α) : (t.set k v).get j = if j = k then some v else t.get j := by
  rw [Tr.set_eq, Tr.get_eq, Tr.get_eq]
  by_cases h : j = k
  · subst h; rw [if_pos rfl, Tr.getP_setP]
  · rw [if_neg h, Tr.getP_setP_ne _ _ _ _ (fun e => h (pa_inj e))]
theorem nthL_eq {α : Type} : ∀ (l : List α) (k : Nat), nthL l k = l[k]?
  | [], _ => rfl
  | _ :: _, 0 => rfl
  | _ :: l, k + 1 => by rw [List.getElem?_cons_succ]; exact nthL_eq l k
theorem setL_std {α : Type} (v : α) : ∀ (l : List α) (k : Nat), setL v l k = l.set k v
  | [], _ => rfl
  | _ :: _, 0 => rfl
  | x :: l, k + 1 => by rw [List.set_cons_succ, ← setL_std v l k]; rfl
theorem takL_eq {α : Type} : ∀ (l : List α) (k : Nat), takL l k = l.take k
  | [], _ => by simp [takL]
  | _ :: _, 0 => rfl
  | x :: l, k + 1 => by rw [List.take_succ_cons, ← takL_eq l k]; rfl
theorem droL_eq {α : Type} : ∀ (l : List α) (k : Nat), droL l k = l.drop k
  | [], _ => by simp [droL]
  | _ :: _, 0 => rfl
  | x :: l, k + 1 => by rw [List.drop_succ_cons, ← droL_eq l k]; rfl
theorem lenL_eq {α : Type} : ∀ (l : List α), lenL l = l.length
  | [] => rfl
  | _ :: l => by rw [List.length_cons, ← lenL_eq l]; rfl
theorem appL_eq {α : Type} : ∀ (l r : List α), appL l r = l ++ r
  | [], _ => rfl
  | x :: l, r => by rw [List.cons_append, ← appL_eq l r]; rfl
theorem Tr.get_set_self {α : Type} (t : Tr α) (k : Nat) (v : α) : (t.set k v).get k = some v := by simp [Tr.get_set]
theorem Tr.get_set_ne {α : Type} (t : Tr α) {k j : Nat} (v : α) (h : j ≠ k) : (t.set k v).get j = t.get j := by simp [Tr.get_set, h]

theorem blt_iff {a b : Nat} : Nat.blt a b = true ↔ a < b := by simp [Nat.blt_eq]
theorem Tr.set_set {α : Type} (t : Tr α) (k : Nat) (u v : α) : (t.set k u).set k v = t.set k v := by
  rw [Tr.set_eq, Tr.set_eq, Tr.set_eq, Tr.setP_setP]

theorem div_eq (a b : Nat) : Nat.div a b = a / b := rfl
theorem mod_eq (a b : Nat) : Nat.mod a b = a % b := rfl
theorem padL_get : ∀ (m : Nat) (l : List Value) (k : Nat), (padL m l)[k]? = if k < m then some (l[k]?.getD undef) else none
  | 0, l, k => by simp [padL]
  | m + 1, [], k => by
    cases k with
    | zero => simp [padL]
    | succ k => rw [padL, List.getElem?_cons_succ, padL_get m [] k]; simp
  | m + 1, x :: xs, k => by
    cases k with
    | zero => simp [padL]
    | succ k => rw [padL, List.getElem?_cons_succ, padL_get m xs k]; simp
theorem padL_len : ∀ (m : Nat) (l : List Value), (padL m l).length = m
  | 0, l => rfl
  | m + 1, [] => by rw [padL, List.length_cons, padL_len m []]
  | m + 1, x :: xs => by rw [padL, List.length_cons, padL_len m xs]
theorem chunk_get {t : Tr (List Value)} {k : Nat} {l : List Value} (h : t.get (k / 64) = some l) : chunk t k = l := by
  unfold chunk; rw [div_eq, h]
theorem get_blk (t : Tr (List Value)) (n k : Nat) : (Cells.blk t n).get k = if k < n then some ((chunk t k)[k % 64]?.getD undef) else none := by
  simp only [Cells.get, nthL_eq, mod_eq]
  by_cases hk : k < n
  · rw [if_pos hk, blt_iff.2 hk]
    simp only [cond_true]
    cases (chunk t k)[k % 64]? <;> rfl
  · have : Nat.blt k n = false := by
      cases hb : Nat.blt k n with
      | false => rfl
      | true => exact absurd (blt_iff.1 hb) hk
    rw [if_neg hk, this]; rfl
theorem get_lst (l : List Value) (k : Nat) : (Cells.lst l).get k = l[k]? := nthL_eq l k
theorem chunk_set (t : Tr (List Value)) (c j : Nat) (l : List Value) : chunk (t.set c l) j = if j / 64 = c then l else chunk t j := by
  unfold chunk
  simp only [div_eq, Tr.get_set]
  by_cases h : j / 64 = c
  · simp [h]
  · simp [h]
theorem chunk_eq {t : Tr (List Value)} {j k : Nat} (h : j / 64 = k / 64) : chunk t j = chunk t k := by unfold chunk; simp only [div_eq, h]
theorem Cells.get_set {cs : Cells} {k : Nat} {u v : Value} (h : cs.get k = some u) (j : Nat) : (cs.set k v).get j = if j = k then some v else cs.get j := by
  cases cs with
  | lst l =>
    simp only [Cells.set, setL_std, get_lst] at *
    have hk : k < l.length := (List.getElem?_eq_some_iff.1 h).1
    by_cases hj : j = k
    · subst hj; simp [hk]
    · rw [List.getElem?_set_ne (Ne.symm hj)]; simp [hj]
  | blk t n =>
    have hkn : k < n := by
      rw [get_blk] at h
      by_cases hk : k < n
      · exact hk
      · rw [if_neg hk] at h; cases h
    have key : ∀ l : List Value, k % 64 < l.length → (∀ i : Nat, l[i]?.getD undef = (chunk t k)[i]?.getD undef) → (Cells.blk (t.set (k / 64) (l.set (k % 64) v)) n).get j = if j = k then some v else (Cells.blk t n).get j := by
      intro l hl hg
      rw [get_blk, get_blk, chunk_set]
      by_cases hj : j = k
      · subst hj
        rw [if_pos hkn, if_pos rfl, if_pos rfl]
        simp [hl]
      · rw [if_neg hj]
        by_cases hjn : j < n
        · rw [if_pos hjn, if_pos hjn]
          by_cases hd : j / 64 = k / 64
          · have hm : k % 64 ≠ j % 64 := fun e => hj (by omega)
            rw [if_pos hd, List.getElem?_set_ne hm, hg, chunk_eq hd]
          · rw [if_neg hd]
        · rw [if_neg hjn, if_neg hjn]
    simp only [Cells.set, nthL_eq, setL_std, mod_eq, div_eq]
    cases hc : (chunk t k)[k % 64]? with
    | some w => exact key _ (List.getElem?_eq_some_iff.1 hc).1 (fun _ => rfl)
    | none =>
      refine key _ (by rw [padL_len]; omega) fun i => ?_
      rw [padL_get]
      by_cases hi : i < 64
      · rw [if_pos hi]; rfl
      · rw [if_neg hi]
        have := List.getElem?_eq_none_iff.1 hc
        rw [List.getElem?_eq_none (by omega)]
theorem Cells.len_set (cs : Cells) (k : Nat) (v : Value) : (cs.set k v).len = cs.len := by
  cases cs with
  | lst l => simp [Cells.set, Cells.len, setL_std, lenL_eq]
  | blk t n => simp only [Cells.set]; cases nthL (chunk t k) (Nat.mod k 64) <;> rfl
theorem Cells.get_lt {cs : Cells} {k : Nat} {v : Value} (h : cs.get k = some v) : k < cs.len := by
  cases cs with
  | lst l =>
    rw [get_lst] at h
    simp only [Cells.len, lenL_eq]
    exact (List.getElem?_eq_some_iff.1 h).1
  | blk t n =>
    rw [get_blk] at h
    by_cases hk : k < n
    · exact hk
    · rw [if_neg hk] at h; cases h
theorem Cells.full (cs : Cells) (k : Nat) (h : k < cs.len) : (cs.get k).isSome = true := by
  cases cs with
  | lst l =>
    simp only [Cells.len, lenL_eq] at h
    rw [get_lst]; simp [h]
  | blk t n =>
    have h' : k < n := h
    rw [get_blk, if_pos h']; rfl
theorem mkBlk_get : ∀ (f i : Nat) (l : List Value) (t : Tr (List Value)), l.length ≤ f → ∀ j, (mkBlk f i l t).get j = if i ≤ j ∧ (j - i) * 64 < l.length then some ((l.drop ((j - i) * 64)).take 64) else t.get j
  | 0, i, l, t, h, j => by
    have : l.length = 0 := by omega
    rw [mkBlk, if_neg (by omega)]
  | f + 1, i, l, t, h, j => by
    cases l with
    | nil => rw [mkBlk, if_neg (by simp)]
    | cons x xs =>
      rw [mkBlk, droL_eq, takL_eq, mkBlk_get f (i + 1) _ _ (by simp only [List.length_drop, List.length_cons] at *; omega) j]
      rw [List.length_drop]
      by_cases h1 : i + 1 ≤ j ∧ (j - (i + 1)) * 64 < (x :: xs).length - 64
      · rw [if_pos h1, if_pos (by omega), List.drop_drop]
        rw [show 64 + (j - (i + 1)) * 64 = (j - i) * 64 from by omega]
      · rw [if_neg h1, Tr.get_set]
        by_cases h2 : j = i
        · subst h2
          rw [if_pos rfl, if_pos ⟨Nat.le_refl _, by simp⟩]
          simp
        · rw [if_neg h2, if_neg (by omega)]
theorem mkCells_get (l : List Value) (k : Nat) : (mkCells l).get k = l[k]? := by
  unfold mkCells
  simp only [lenL_eq]
  cases Nat.ble l.length 64 with
  | true => exact nthL_eq l k
  | false =>
    simp only [cond_false]
    rw [get_blk]
    by_cases hk : k < l.length
    · have hc : chunk (mkBlk l.length 0 l .nil) k = (l.drop (k / 64 * 64)).take 64 := by
        refine chunk_get ?_
        rw [mkBlk_get _ _ _ _ (Nat.le_refl _), if_pos (by omega)]
        rfl
      rw [if_pos hk, hc, List.getElem?_take, if_pos (by omega), List.getElem?_drop, show k / 64 * 64 + k % 64 = k from by omega]
      simp [hk]
    · rw [if_neg hk, List.getElem?_eq_none (by omega)]
theorem mkCells_len (l : List Value) : (mkCells l).len = l.length := by
  unfold mkCells
  simp only [lenL_eq]
  cases Nat.ble l.length 64
  · rfl
  · exact lenL_eq l
theorem colBlk_get {t : Tr (List Value)} : ∀ {m i : Nat} {vs : List Value}, colBlk t i m = some vs → vs.length = m * 64 ∧ ∀ k, k < m * 64 → ∃ l, t.get (i + k / 64) = some l ∧ l.length = 64 ∧ vs[k]? = l[k % 64]?
  | 0, i, vs, h => by simp only [colBlk, Option.some.injEq] at h; subst h; exact ⟨rfl, fun k hk => by omega⟩
  | m + 1, i, vs, h => by
    simp only [colBlk, lenL_eq, appL_eq] at h
    split at h
    · rename_i l r hl hr
      cases hb : Nat.beq l.length 64 with
      | false => rw [hb] at h; simp at h
      | true =>
        rw [hb] at h
        simp only [cond_true, Option.some.injEq] at h
        subst h
        have hlen := Nat.eq_of_beq_eq_true hb
        obtain ⟨h1, h2⟩ := colBlk_get hr
        refine ⟨by simp [hlen, h1]; omega, fun k hk => ?_⟩
        by_cases hk2 : k < 64
        · refine ⟨l, by rw [show k / 64 = 0 from by omega]; exact hl, hlen, ?_⟩
          rw [List.getElem?_append_left (by omega), Nat.mod_eq_of_lt hk2]
        · obtain ⟨l2, g1, g2, g3⟩ := h2 (k - 64) (by omega)
          refine ⟨l2, by rw [show i + k / 64 = i + 1 + (k - 64) / 64 from by omega]; exact g1, g2, ?_⟩
          rw [List.getElem?_append_right (by omega), hlen, g3]
          congr 1; omega
    · cases h
theorem Cells.ext_get {cs : Cells} {o n : Nat} {vs : List Value} (h : cs.ext o n = some vs) : vs.length = n ∧ ∀ k, k < n → cs.get (o + k) = vs[k]? := by
  cases cs with
  | lst l =>
    simp only [Cells.ext, lenL_eq, takL_eq, droL_eq, Nat.add_eq] at h
    cases hb : Nat.ble (o + n) l.length with
    | false => rw [hb] at h; simp at h
    | true =>
      rw [hb] at h
      simp only [cond_true, Option.some.injEq] at h
      have hle := Nat.le_of_ble_eq_true hb
      subst h
      refine ⟨by simp; omega, fun k hk => ?_⟩
      simp only [Cells.get, nthL_eq]
      rw [List.getElem?_take, if_pos hk, List.getElem?_drop]
  | blk t m =>
    simp only [Cells.ext, Nat.add_eq] at h
    cases hb : (Nat.beq (Nat.mod o 64) 0 && Nat.beq (Nat.mod n 64) 0 && Nat.ble (o + n) m) with
    | false => rw [hb] at h; simp at h
    | true =>
      rw [hb] at h
      simp only [cond_true] at h
      simp only [Bool.and_eq_true] at hb
      obtain ⟨⟨h1, h2⟩, h3⟩ := hb
      have h1 := Nat.eq_of_beq_eq_true h1
      have h2 := Nat.eq_of_beq_eq_true h2
      have h3 := Nat.le_of_ble_eq_true h3
      simp only [mod_eq, div_eq] at h1 h2 h
      obtain ⟨g1, g2⟩ := colBlk_get h
      refine ⟨by omega, fun k hk => ?_⟩
      obtain ⟨l, k1, k2, k3⟩ := g2 k (by omega)
      rw [get_blk, if_pos (by omega), chunk_get (show t.get ((o + k) / 64) = some l from by rw [show (o + k) / 64 = o / 64 + k / 64 from by omega]; exact k1), k3, show (o + k) % 64 = k % 64 from by omega]
      have hlt : k % 64 < l.length := by omega
      simp [hlt]
theorem setL_eq : ∀ (vs l : List Value) (o : Nat), o + vs.length ≤ l.length → (vs.zipIdx o).foldl (fun (cs : List Value) (p : Value × Nat) => cs.set p.2 p.1) l = l.take o ++ (vs ++ l.drop (o + vs.length))
  | [], l, o, _ => by simp
  | v :: vs, l, o, h => by
    simp only [List.length_cons] at h
    simp only [List.zipIdx_cons, List.foldl_cons]
    rw [setL_eq vs (l.set o v) (o + 1) (by simp; omega)]
    have h1 : (l.set o v).take (o + 1) = l.take o ++ [v] := by
      rw [List.take_succ_eq_append_getElem (by simp; omega)]
      simp [List.take_set_of_le]
    have h2 : (l.set o v).drop (o + 1 + vs.length) = l.drop (o + (v :: vs).length) := by
      rw [List.drop_set_of_lt (by omega)]
      congr 1; simp; omega
    rw [h1, h2]; simp
/-- All cells, one by one. -/
noncomputable def Cells.sets : Cells → Nat → List Value → Cells
  | cs, _, [] => cs
  | cs, o, v :: vs => (cs.set o v).sets (o + 1) vs
theorem sets_lst : ∀ (vs l : List Value) (o : Nat), (Cells.lst l).sets o vs = .lst ((vs.zipIdx o).foldl (fun (cs : List Value) (p : Value × Nat) => cs.set p.2 p.1) l)
  | [], _, _ => rfl
  | v :: vs, l, o => by
    simp only [Cells.sets, Cells.set, setL_std, List.zipIdx_cons, List.foldl_cons]
    exact sets_lst vs _ _
theorem sets_blk (m : Nat) (c : Nat) : ∀ (vs l : List Value) (t : Tr (List Value)) (o : Nat), t.get c = some l → l.length = 64 → o + vs.length ≤ 64 → 0 < vs.length →
    (Cells.blk t m).sets (c * 64 + o) vs = .blk (t.set c ((vs.zipIdx o).foldl (fun (cs : List Value) (p : Value × Nat) => cs.set p.2 p.1) l)) m
  | [], _, _, _, _, _, _, h => by simp at h
  | v :: vs, l, t, o, hl, hlen, h, _ => by
    simp only [List.length_cons] at h
    have hch : chunk t (c * 64 + o) = l := chunk_get (by rw [show (c * 64 + o) / 64 = c from by omega]; exact hl)
    have hn : nthL l (Nat.mod (c * 64 + o) 64) = some l[o] := by
      rw [nthL_eq, mod_eq, show (c * 64 + o) % 64 = o from by omega]; simp
    simp only [Cells.sets, Cells.set, setL_std, hch, hn]
    rw [show Nat.div (c * 64 + o) 64 = c from by rw [div_eq]; omega, show Nat.mod (c * 64 + o) 64 = o from by rw [mod_eq]; omega]
    simp only [List.zipIdx_cons, List.foldl_cons]
    cases vs with
    | nil => rfl
    | cons u us =>
      have := sets_blk m c (u :: us) (l.set o v) (t.set c (l.set o v)) (o + 1) (Tr.get_set_self _ _ _) (by simpa using hlen) (by simp only [List.length_cons] at h ⊢; omega) (by simp)
      rw [Tr.set_set] at this
      exact this
theorem Cells.put_eq {cs cs' : Cells} {o : Nat} {vs : List Value} (h : cs.put o vs = some cs') (hne : 0 < vs.length) : cs' = cs.sets o vs ∧ ∀ k, k < vs.length → (cs.get (o + k)).isSome = true := by
  cases cs with
  | lst l =>
    simp only [Cells.put, lenL_eq, takL_eq, droL_eq, appL_eq, Nat.add_eq] at h
    cases hb : Nat.ble (o + vs.length) l.length with
    | false => rw [hb] at h; simp at h
    | true =>
      rw [hb] at h
      simp only [cond_true, Option.some.injEq] at h
      have hle := Nat.le_of_ble_eq_true hb
      subst h
      refine ⟨by rw [sets_lst, setL_eq _ _ _ hle], fun k hk => ?_⟩
      simp only [Cells.get, nthL_eq]
      have hlt : o + k < l.length := by omega
      simp [hlt]
  | blk t m =>
    simp only [Cells.put, lenL_eq, Nat.add_eq] at h
    cases hb : (Nat.beq (Nat.mod o 64) 0 && Nat.beq vs.length 64 && Nat.ble (o + 64) m) with
    | false => rw [hb] at h; simp at h
    | true =>
      rw [hb] at h
      simp only [cond_true] at h
      simp only [Bool.and_eq_true] at hb
      obtain ⟨⟨h1, h2⟩, h3⟩ := hb
      have h1 := Nat.eq_of_beq_eq_true h1
      have h2 := Nat.eq_of_beq_eq_true h2
      have h3 := Nat.le_of_ble_eq_true h3
      simp only [mod_eq, div_eq] at h1 h
      cases hl : t.get (o / 64) with
      | none => rw [hl] at h; simp at h
      | some l =>
        rw [hl] at h
        simp only at h
        cases hbl : Nat.beq l.length 64 with
        | false => rw [hbl] at h; simp at h
        | true =>
          rw [hbl] at h
          simp only [cond_true, Option.some.injEq] at h
          have hlen := Nat.eq_of_beq_eq_true hbl
          subst h
          have := sets_blk m (o / 64) vs l t 0 hl hlen (by omega) hne
          rw [setL_eq vs l 0 (by omega)] at this
          rw [show o / 64 * 64 + 0 = o from by omega] at this
          refine ⟨?_, fun k hk => ?_⟩
          · rw [this]
            congr 2
            simp [List.drop_eq_nil_of_le (show l.length ≤ vs.length from by omega)]
          · exact Cells.full _ _ (by show o + k < m; omega)

theorem blkPush_spec : ∀ {vs : List Value} {t : Tr (List Value)} {n : Nat}, (blkPush t n vs).len = n + vs.length ∧ ∀ k, (blkPush t n vs).get k = if k < n then (Cells.blk t n).get k else vs[k - n]?
  | [], t, n => by
    refine ⟨rfl, fun k => ?_⟩
    by_cases hk : k < n
    · rw [if_pos hk]; rfl
    · rw [if_neg hk, blkPush, get_blk, if_neg hk]; rfl
  | v :: vs, t, n => by
    obtain ⟨h1, h2⟩ := blkPush_spec (vs := vs) (t := t.set (Nat.div n 64) (appL (padL (Nat.mod n 64) (chunk t n)) [v])) (n := n + 1)
    rw [blkPush]
    refine ⟨by rw [h1]; simp; omega, fun k => ?_⟩
    rw [h2 k, appL_eq, div_eq, mod_eq]
    by_cases hk : k < n
    · rw [if_pos hk, if_pos (by omega), get_blk, get_blk, if_pos (by omega), if_pos hk, chunk_set]
      by_cases hd : k / 64 = n / 64
      · rw [if_pos hd, List.getElem?_append_left (by rw [padL_len]; omega), padL_get, if_pos (by omega), chunk_eq hd]
        rfl
      · rw [if_neg hd]
    · rw [if_neg hk]
      by_cases hk2 : k = n
      · subst hk2
        rw [if_pos (by omega), get_blk, if_pos (by omega), chunk_set, if_pos rfl, List.getElem?_append_right (by rw [padL_len]; omega), padL_len]
        simp
      · rw [if_neg (by omega), show k - n = (k - (n + 1)) + 1 from by omega, List.getElem?_cons_succ]
theorem app_spec (cs : Cells) (vs : List Value) : (cs.app vs).len = cs.len + vs.length ∧ ∀ k, (cs.app vs).get k = if k < cs.len then cs.get k else vs[k - cs.len]? := by
  cases cs with
  | lst l =>
    have e1 : (Cells.lst l).len = l.length := lenL_eq l
    have e2 : ∀ k, (Cells.lst l).get k = l[k]? := nthL_eq l
    have e3 : (Cells.lst l).app vs = mkCells (l ++ vs) := by simp only [Cells.app, appL_eq]
    rw [e3]
    refine ⟨by rw [mkCells_len, e1]; simp, fun k => ?_⟩
    rw [mkCells_get, e1, e2]
    by_cases hk : k < l.length
    · rw [if_pos hk, List.getElem?_append_left hk]
    · rw [if_neg hk, List.getElem?_append_right (by omega)]
  | blk t n => exact blkPush_spec
theorem full_list (cs : Cells) : ∃ l : List Value, l.length = cs.len ∧ ∀ k, cs.get k = l[k]? := by
  refine ⟨(List.range cs.len).map fun k => (cs.get k).getD undef, by simp, fun k => ?_⟩
  by_cases hk : k < cs.len
  · obtain ⟨v, hv⟩ := Option.isSome_iff_exists.1 (cs.full k hk)
    simp [hk, hv]
  · rw [List.getElem?_eq_none (by simp; omega)]
    cases hg : cs.get k with
    | none => rfl
    | some v => exact absurd (Cells.get_lt hg) hk

/-! ## What an abstract value stands for -/
structure EI where
  blk : Nat
  off : Nat
  cap : Nat
abbrev Env := Nat → Option EI
def Env.le (E E' : Env) : Prop := ∀ i e, E i = some e → E' i = some e
theorem Env.le_refl (E : Env) : E.le E := fun _ _ h => h
theorem Env.le_trans {E E' E'' : Env} (h : E.le E') (k : E'.le E'') : E.le E'' := fun i e x => k i e (h i e x)
def Env.upd (E : Env) (j : Nat) (e : EI) : Env := fun i => if i = j then some e else E i
theorem Env.le_upd {E : Env} {j : Nat} {e : EI} (h : E j = none) : E.le (E.upd j e) := fun i x hi => by
  unfold Env.upd
  by_cases hij : i = j
  · subst hij; rw [h] at hi; cases hi
  · simp [hij, hi]

def capOf (e : EI) (c : Nat) : Nat := if c < HALF then c else e.cap - (INF - c)

/-- What the symbols stand for: scalars; slices (length; by how many elements and cells it begins ahead of the view); rows. -/
class Den where
  v : Nat → Value
  plain : ∀ i, plainS (v i) = true
  len : Nat → Nat
  sh : Nat → Nat × Nat
  o : Nat → Value
  one : ∀ i, oneB (o i) = true
  row : Nat → List Value
  rowPlain : ∀ j, (row j).all plainS = true
theorem oneB_plain {u : Value} (hp : Sx.plainS u = true) : Sx.oneB u = true := by cases u <;> first | rfl | (simp [Sx.plainS] at hp)
theorem oneB_iff (v : Value) : oneB v = v.oneCell' := by cases v <;> rfl
section
variable [Den]
inductive VR (E : Env) : Value → Value → Prop
  | sym (k : FloatKind) (i : Nat) {v' : Value} (h : v' = Den.v i) : VR E (.float k i) v'
  | ssl (k : FloatKind) {i p o cp : Nat} {e : EI} {a' : Addr} {v' : Value} (h : E i = some e) (ho : o + (Den.sh p).2 = e.off) (hc : cp = e.cap + (Den.sh p).1) (hn : Den.len p ≤ cp)
      (ha : a' = ⟨e.blk, o, none⟩ ∨ cp = 0) (hv : v' = .slice (some a') (Den.len p) cp) : VR E (.complex k i p) v'
  | opq (i : Nat) {v' : Value} (h : VR E (Den.o i) v') : VR E (.chan (some i)) v'
  | bool (b : Bool) : VR E (.bool b) (.bool b)
  | int (k : IntKind) (n : Int) : VR E (.int k n) (.int k n)
  | str (s : ByteArray) : VR E (.string s) (.string s)
  | nilP : VR E (.pointer none) (.pointer none)
  | nilS : VR E (.slice none 0 0) (.slice none 0 0)
  | nilM : VR E (.map none) (.map none)
  | nilF : VR E .nilFunc .nilFunc
  | nilI : VR E .nilIface .nilIface
  | ptr {i o : Nat} {e : EI} (h : E i = some e) : VR E (.pointer (some ⟨i, o, none⟩)) (.pointer (some ⟨e.blk, e.off + o, none⟩))
  | sl {i o n c : Nat} {e : EI} {a' : Addr} (h : E i = some e) (hn : n ≤ capOf e c) (ha : a' = ⟨e.blk, e.off + o, none⟩ ∨ capOf e c = 0) :
      VR E (.slice (some ⟨i, o, none⟩) n c) (.slice (some a') n (capOf e c))
  | map {i : Nat} {e : EI} (h : E i = some e) : VR E (.map (some i)) (.map (some e.blk))
  | fn {g : FuncId} {f f' c c' : Array Value} (hf : f.toList.length = f'.toList.length) (h1 : ∀ (k : Nat) x y, f.toList[k]? = some x → f'.toList[k]? = some y → VR E x y)
      (hc : c.toList.length = c'.toList.length) (h2 : ∀ (k : Nat) x y, c.toList[k]? = some x → c'.toList[k]? = some y → VR E x y) : VR E (.func (.func g) f c) (.func (.func g) f' c')
  | yl {l : Nat} {e : EI} (h : E l = some e) : VR E (.func (.yield l) #[] #[]) (.func (.yield e.blk) #[] #[])
  | agg {f f' : Array Value} (hf : f.toList.length = f'.toList.length) (h1 : ∀ (k : Nat) x y, f.toList[k]? = some x → f'.toList[k]? = some y → VR E x y) : VR E (.agg f) (.agg f')
  | tup {f f' : Array Value} (hf : f.toList.length = f'.toList.length) (h1 : ∀ (k : Nat) x y, f.toList[k]? = some x → f'.toList[k]? = some y → VR E x y) : VR E (.tuple f) (.tuple f')

def LR (E : Env) (xs ys : List Value) : Prop := xs.length = ys.length ∧ ∀ (k : Nat) x y, xs[k]? = some x → ys[k]? = some y → VR E x y

theorem VR.mono {E E' : Env} (h : E.le E') {v v' : Value} (hv : VR E v v') : VR E' v v' := by
  induction hv with
  | sym k i h => exact .sym k i h
  | opq i _ ih => exact .opq i ih
  | ssl k h' ho hc hn ha hv => exact .ssl k (h _ _ h') ho hc hn ha hv
  | bool b => exact .bool b
  | int k n => exact .int k n
  | str s => exact .str s
  | nilP => exact .nilP
  | nilS => exact .nilS
  | nilM => exact .nilM
  | nilF => exact .nilF
  | nilI => exact .nilI
  | ptr hi => exact .ptr (h _ _ hi)
  | sl hi hn ha => exact .sl (h _ _ hi) hn ha
  | map hi => exact .map (h _ _ hi)
  | fn hf _ hc _ i1 i2 => exact .fn hf i1 hc i2
  | yl hi => exact .yl (h _ _ hi)
  | agg hf _ i1 => exact .agg hf i1
  | tup hf _ i1 => exact .tup hf i1
theorem LR.mono {E E' : Env} (h : E.le E') {xs ys : List Value} (hv : LR E xs ys) : LR E' xs ys := ⟨hv.1, fun k x y hx hy => (hv.2 k x y hx hy).mono h⟩
theorem LR.nil (E : Env) : LR E [] [] := ⟨rfl, fun k x y hx => by simp at hx⟩
theorem LR.cons {E : Env} {x y : Value} {xs ys : List Value} (h : VR E x y) (hs : LR E xs ys) : LR E (x :: xs) (y :: ys) := by
  refine ⟨by simp [hs.1], fun k a b ha hb => ?_⟩
  cases k with
  | zero => simp at ha hb; subst ha; subst hb; exact h
  | succ k => simp at ha hb; exact hs.2 k a b ha hb
theorem LR.cons_inv {E : Env} {x : Value} {xs ys : List Value} (h : LR E (x :: xs) ys) : ∃ y ys', ys = y :: ys' ∧ VR E x y ∧ LR E xs ys' := by
  cases ys with
  | nil => have := h.1; simp at this
  | cons y ys =>
    refine ⟨y, ys, rfl, h.2 0 x y (by simp) (by simp), by have := h.1; simpa using this, fun k a b ha hb => h.2 (k + 1) a b (by simpa using ha) (by simpa using hb)⟩
theorem LR.nil_inv {E : Env} {ys : List Value} (h : LR E [] ys) : ys = [] := by
  cases ys with
  | nil => rfl
  | cons y ys => have := h.1; simp at this
theorem LR.append {E : Env} : ∀ {xs ys us vs : List Value}, LR E xs ys → LR E us vs → LR E (xs ++ us) (ys ++ vs)
  | [], ys, _, _, h, k => by rw [h.nil_inv]; exact k
  | x :: xs, ys, _, _, h, k => by
    obtain ⟨y, ys', rfl, h1, h2⟩ := h.cons_inv
    exact LR.cons h1 (LR.append h2 k)
theorem LR.get {E : Env} {xs ys : List Value} (h : LR E xs ys) {k : Nat} {x : Value} (hx : xs[k]? = some x) : ∃ y, ys[k]? = some y ∧ VR E x y := by
  have hk : k < ys.length := by rw [← h.1]; exact (List.getElem?_eq_some_iff.1 hx).1
  exact ⟨ys[k], by simp [hk], h.2 k x _ hx (by simp [hk])⟩
theorem LR.take {E : Env} {xs ys : List Value} (h : LR E xs ys) (n : Nat) : LR E (xs.take n) (ys.take n) := by
  refine ⟨by simp [h.1], fun k x y hx hy => ?_⟩
  rw [List.getElem?_take] at hx hy
  by_cases hk : k < n
  · simp only [hk, if_true] at hx hy; exact h.2 k x y hx hy
  · simp [hk] at hx
theorem LR.drop {E : Env} {xs ys : List Value} (h : LR E xs ys) (n : Nat) : LR E (xs.drop n) (ys.drop n) := by
  refine ⟨by simp [h.1], fun k x y hx hy => ?_⟩
  rw [List.getElem?_drop] at hx hy
  exact h.2 _ x y hx hy
theorem VR.agg_of {E : Env} {f f' : Array Value} (h : LR E f.toList f'.toList) : VR E (.agg f) (.agg f') := .agg h.1 h.2
theorem VR.tup_of {E : Env} {f f' : Array Value} (h : LR E f.toList f'.toList) : VR E (.tuple f) (.tuple f') := .tup h.1 h.2

theorem VR.cleanS {E : Env} {v : Value} (h : cleanS v = true) : VR E v v := by
  cases v with
  | bool b => exact .bool b
  | int k n => exact .int k n
  | string s => exact .str s
  | pointer a => cases a with
    | none => exact .nilP
    | some a => simp [Sx.cleanS] at h
  | slice a n c => cases a with
    | none =>
      simp only [Sx.cleanS, Bool.and_eq_true] at h
      rw [Nat.eq_of_beq_eq_true h.1, Nat.eq_of_beq_eq_true h.2]; exact .nilS
    | some a => simp [Sx.cleanS] at h
  | map a => cases a with
    | none => exact .nilM
    | some a => simp [Sx.cleanS] at h
  | nilFunc => exact .nilF
  | nilIface => exact .nilI
  | func g f c =>
    cases g <;> simp only [Sx.cleanS, Bool.false_eq_true, Bool.and_eq_true] at h
    have h1 := Nat.eq_of_beq_eq_true h.1
    have h2 := Nat.eq_of_beq_eq_true h.2
    have e1 : f = #[] := Array.eq_empty_of_size_eq_zero h1
    have e2 : c = #[] := Array.eq_empty_of_size_eq_zero h2
    subst e1; subst e2
    exact .fn rfl (fun k x y hx => by simp at hx) rfl (fun k x y hx => by simp at hx)
  | _ => simp [Sx.cleanS] at h
theorem LR.cleanL {E : Env} {xs : List Value} (h : xs.all cleanS = true) : LR E xs xs := by
  refine ⟨rfl, fun k x y hx hy => ?_⟩
  rw [hx] at hy; cases hy
  exact VR.cleanS (List.all_eq_true.1 h x (List.mem_of_getElem? hx))
theorem VR.clean {E : Env} {v : Value} (h : cleanB v = true) : VR E v v := by
  cases v with
  | agg cs => exact .agg_of (LR.cleanL h)
  | tuple cs => exact .tup_of (LR.cleanL h)
  | _ => exact VR.cleanS h
theorem VR.plainS {E : Env} {v v' : Value} (h : VR E v v') (hp : plainS v = true) : v' = v := by
  cases h <;> first | rfl | simp [Sx.plainS] at hp
theorem VR.plain {E : Env} {v v' : Value} (h : VR E v v') (hp : plainB v = true) : v' = v := by
  cases h with
  | agg hf h1 =>
    rename_i f f'
    have : f'.toList = f.toList := by
      apply List.ext_getElem? ; intro k
      cases hx : f.toList[k]? with
      | none =>
        have : f.toList.length ≤ k := List.getElem?_eq_none_iff.1 hx
        exact List.getElem?_eq_none (by omega)
      | some x =>
        have hk : k < f'.toList.length := by rw [← hf]; exact (List.getElem?_eq_some_iff.1 hx).1
        have hy : f'.toList[k]? = some f'.toList[k] := by simp
        rw [hy]
        exact congrArg some (VR.plainS (h1 k x _ hx hy) (List.all_eq_true.1 hp x (List.mem_of_getElem? hx)))
    exact congrArg Value.agg (Array.toList_inj.1 this)
  | _ => first | rfl | simp [Sx.plainB, Sx.plainS] at hp
theorem VR.oneB {E : Env} {v v' : Value} (h : VR E v v') : Sx.oneB v' = Sx.oneB v := by
  induction h with
  | sym k i h => subst h; exact oneB_plain (Den.plain i)
  | ssl k h hb ho hc hn hv => subst hv; rfl
  | opq i h ih => rw [ih, Den.one]; rfl
  | _ => rfl
theorem VR.cells {E : Env} {v v' : Value} (h : VR E v v') : LR E v.cells.toList v'.cells.toList := by
  cases h with
  | sym k i h =>
    subst h
    have hp := Den.plain i
    have hc : (Den.v i).cells = #[Den.v i] := by
      generalize Den.v i = u at hp
      cases u <;> first | rfl | (simp [Sx.plainS] at hp)
    rw [hc]; exact LR.cons (.sym k i rfl) (LR.nil E)
  | ssl k h hb ho hc hn hv => subst hv; exact LR.cons (.ssl k h hb ho hc hn rfl) (LR.nil E)
  | opq i h =>
    have ho := h.oneB
    rw [Den.one] at ho
    have hc : v'.cells = #[v'] := by cases v' <;> first | rfl | cases ho
    rw [hc]; exact LR.cons (.opq i h) (LR.nil E)
  | agg hf h1 => exact ⟨hf, h1⟩
  | fn hf h1 hc h2 => exact LR.cons (.fn hf h1 hc h2) (LR.nil E)
  | yl h => exact LR.cons (.yl h) (LR.nil E)
  | tup hf h1 => exact LR.cons (.tup hf h1) (LR.nil E)
  | sl h1 h2 h3 => exact LR.cons (.sl h1 h2 h3) (LR.nil E)
  | ptr h => exact LR.cons (.ptr h) (LR.nil E)
  | map h => exact LR.cons (.map h) (LR.nil E)
  | bool b => exact LR.cons (.bool b) (LR.nil E)
  | int k n => exact LR.cons (.int k n) (LR.nil E)
  | str s => exact LR.cons (.str s) (LR.nil E)
  | nilP => exact LR.cons .nilP (LR.nil E)
  | nilS => exact LR.cons .nilS (LR.nil E)
  | nilM => exact LR.cons .nilM (LR.nil E)
  | nilF => exact LR.cons .nilF (LR.nil E)
  | nilI => exact LR.cons .nilI (LR.nil E)
def OptR (E : Env) : Option Value → Option Value → Prop
  | none, y => y = none
  | some a, y => ∃ b, y = some b ∧ VR E a b
/-- What is to be shown of an assumption. -/
def AK.Ok (P : Program) : AK → Value → Prop
  | .bin op t a b, r => ∀ E a' b', VR E a a' → VR E b b' → ∀ (x y : Operand) w, ∃ r', VR E r r' ∧ (do eqGuard op t x y a' b'; binOp op t a' b' : Sem Value).run P w = .ok r' w
  | .un op a, r => ∀ E a', VR E a a' → ∀ w, ∃ r', VR E r r' ∧ (Op.unary op a').run P w = .ok r' w
  | .conv s d a, r => ∀ E a', VR E a a' → ∀ w, ∃ r', VR E r r' ∧ (convert s d a').run P w = .ok r' w
  | .ixa t x i, r => ∀ E x' i', VR E x x' → VR E i i' → ∀ w, ∃ r', VR E r r' ∧ (Instr.indexAt t x' i').run P w = .ok r' w
  | .ix t x i, r => ∀ E x' i', VR E x x' → VR E i i' → ∀ w, ∃ r', VR E r r' ∧ (Instr.index t x' i').run P w = .ok r' w
  | .len t x, r => ∀ E x', VR E x x' → ∀ (ats : Array TypeId) (ty : TypeId) w, ats[0]? = some t → ∃ r', VR E r r' ∧ (Builtin.len_ ats ty #[x']).run P w = .ok r' w
  | .mm mx a b, r => ∀ E a' b', VR E a a' → VR E b b' → ∀ (ats : Array TypeId) (ty : TypeId) w, ∃ r', VR E r r' ∧ (if mx then Builtin.max_ ats ty #[a', b'] else Builtin.min_ ats ty #[a', b']).run P w = .ok r' w
  | .test _ i, r => r = Den.v i
  | .sli t x lo hi mx, r => ∀ E x' lo' hi' mx', VR E x x' → OptR E lo lo' → OptR E hi hi' → OptR E mx mx' → ∀ w, ∃ r', VR E r r' ∧ (Instr.sliceAt t x' lo' hi' mx').run P w = .ok r' w
end
end Go.Sx

import Derived.Test.YthandoangkckmaaGreatDoorSx5
namespace Go.Sx
section
variable {P : Program} {w0 : World} {F : Nat → Prop} {E : Env} {H : Heap} {w : World}

theorem run_places (w : World) : ∀ {fs : List Field} {ps : List (Nat × Nat)}, placesL P fs = some ps →
    (fs.mapM (fun f => do pure (f.offset, ← sizeOf f.type)) : Sem (List (Nat × Nat))).run P w = .ok ps w
  | [], ps, h => by simp only [placesL, Option.some.injEq] at h; subst h; rfl
  | f :: fs, ps, h => by
    simp only [placesL] at h
    split at h
    · rename_i n qs hn hq
      cases h
      have ih := run_places w hq
      simp only [List.mapM_cons, Sem.run_bind, run_size hn, Result.andThen_ok, Sem.run_pure, ih]
    · cases h
theorem run_placesA (w : World) {fs : Array Field} {ps : List (Nat × Nat)} (h : placesL P fs.toList = some ps) :
    (fs.mapM (fun f => do pure (f.offset, ← sizeOf f.type)) : Sem (Array (Nat × Nat))).run P w = .ok ps.toArray w := by
  rw [Array.mapM_eq_mapM_toList, Sem.run_map, run_places w h]; rfl

theorem build_sound [Den] {t : TypeId} {parts : List (Nat × Value)} {parts' : Array (Nat × Value)} {v : Value} (h : buildA P t parts = some v)
    (hi : parts.map (·.1) = parts'.toList.map (·.1)) (hp : LR E (parts.map (·.2)) (parts'.toList.map (·.2))) :
    ∃ v', (Instr.build t parts').run P w = .ok v' w ∧ VR E v v' := by
  unfold buildA at h
  split at h
  · cases h
  · rename_i z hz
    cases hcl : cleanB z with
    | false => rw [hcl] at h; simp at h
    | true =>
      rw [hcl] at h
      simp only [cond_true] at h
      have hzz := (VR.clean (E := E) hcl).cells
      split at h
      · rename_i fs hu
        split at h
        · rename_i ps hps
          split at h
          · rename_i cs hcs
            cases h
            obtain ⟨out', ho, hlo⟩ := fill_sound hcs hzz hi hp
            refine ⟨.agg out'.toArray, ?_, .agg_of (by simpa using hlo)⟩
            have ho' : Instr.fill (fun x => ps.toArray[x]?) z.cells parts'.toList = some out'.toArray := by
              rw [← ho]; simp
            simp only [Instr.build, Sem.run_bind, run_zero hz, Result.andThen_ok, run_underlying hu, run_placesA w hps, ho', Sem.run_pure]
          · cases h
        · cases h
      · rename_i n e hu
        split at h
        · rename_i m hm
          split at h
          · rename_i cs hcs
            cases h
            obtain ⟨out', ho, hlo⟩ := fill_sound hcs hzz hi hp
            refine ⟨.agg out'.toArray, ?_, .agg_of (by simpa using hlo)⟩
            simp only [Array.toArray_toList] at ho
            simp only [Instr.build, Sem.run_bind, run_zero hz, Result.andThen_ok, run_underlying hu, run_size hm, ho, Sem.run_pure]
          · cases h
        · cases h
      · cases h

theorem rep_eq (z : Array Value) (hn : 0 < z.size) : ∀ len : Nat, (List.range (len * z.size)).map (fun i => z[i % z.size]!) = repL z.toList len
  | 0 => by simp [repL]
  | len + 1 => by
    have ih := rep_eq z hn len
    rw [Nat.add_mul, Nat.one_mul, Nat.add_comm, List.range_add, List.map_append, repL]
    congr 1
    · apply List.ext_getElem
      · simp
      · intro i h1 h2
        simp at h1 h2
        simp [Nat.mod_eq_of_lt h1, h1]
    · rw [← ih, List.map_map]
      apply List.map_congr_left
      intro i _
      simp
theorem repLR [Den] {z z' : List Value} (h : LR E z z') : ∀ n, LR E (repL z n) (repL z' n)
  | 0 => LR.nil E
  | n + 1 => LR.append h (repLR h n)
theorem elem_under {t e : TypeId} (h : sliceElem P t = some e) : P.underlying t = some (.slice e) := by
  unfold sliceElem at h; split at h
  · rename_i hu; cases h; exact hu
  · cases h

theorem buildSlice_sound [Den] {t : TypeId} {len : Nat} {parts : List (Nat × Value)} {parts' : Array (Nat × Value)} {v : Value} {c c' : Nat} {H' : Heap} {L : Lg} (h : buildSliceA P t len parts c H = .ok v c' H' L)
    (hr : HR P w0 F E H w) (hi : parts.map (·.1) = parts'.toList.map (·.1)) (hp : LR E (parts.map (·.2)) (parts'.toList.map (·.2))) :
    ∃ v' w' E', (Instr.buildSlice t len parts').run P w = .ok v' w' ∧ E.le E' ∧ HR P w0 F E' H' w' ∧ VR E' v v' := by
  unfold buildSliceA at h
  obtain ⟨e, _, he, h⟩ := bopt h
  obtain ⟨n, _, hn, h⟩ := bopt h
  obtain ⟨_, hg, h⟩ := bguard h
  obtain ⟨z, _, hz, h⟩ := bopt h
  obtain ⟨_, hs, h⟩ := bguard h
  obtain ⟨cs, _, hf, h⟩ := bopt h
  obtain ⟨_, ho, h⟩ := bguard h
  obtain ⟨j, c1, h1, _, _, hj0, h, _⟩ := bind_ok.1 h
  obtain ⟨hv0, hc0, hh0, _⟩ := pure_ok.1 h
  obtain ⟨hj1, hj2, hj, hj3, _⟩ := newA_inv hj0
  subst hv0 hc0 hh0 hj1 hj2 hj3
  simp only [Bool.and_eq_true] at hg hs
  have hg1 := blt_iff.1 hg.1
  have hg2 := Nat.le_of_ble_eq_true hg.2
  have hs1 := Nat.eq_of_beq_eq_true hs.1
  have hzz := (VR.clean (E := E) hs.2).cells
  obtain ⟨out', hfo, hlo⟩ := fill_sound hf (repLR hzz len) hi hp
  have hu := elem_under he
  have hlen : cs.length = len * n := by
    have key : ∀ (parts : List (Nat × Value)) (cells out : List Value), fillA (fun i => some (i * n, n)) cells parts = some out → out.length = cells.length := by
      intro parts
      induction parts with
      | nil => intro cells out h; simp only [fillA, Option.some.injEq] at h; rw [h]
      | cons p ps ih =>
        intro cells out h
        obtain ⟨i, u⟩ := p
        simp only [fillA] at h
        split at h
        · cases h
        · rename_i hcond
          simp only [ne_eq, Bool.or_eq_true, decide_eq_true_eq, not_or, Decidable.not_not, Nat.not_lt] at hcond
          rw [ih _ _ h]; simp; omega
    rw [key _ _ _ hf]
    have : ∀ (l : List Value) (k : Nat), (repL l k).length = k * l.length := by
      intro l k
      induction k with
      | zero => simp [repL]
      | succ k ih => simp only [repL, List.length_append, ih, Nat.add_mul, Nat.one_mul]; omega
    rw [this]; simp [hs1]
  have hcap : ∀ m, sizeB P e = some m → len * m ≤ (out' ++ []).length ∧ cs.length / m ≤ len := fun m hm => by
    rw [hn] at hm; cases hm
    have := hlo.1
    refine ⟨by simp; omega, Nat.div_le_of_le_mul ?_⟩
    rw [Nat.mul_comm]; omega
  obtain ⟨k1, k2⟩ := hr.newRow (T := e) (more := []) (cap := len) hj hlo ho hcap
  refine ⟨.slice (some ⟨w.heap.size, 0, none⟩) len len, _, _, ?_, k1, by simpa using k2, ?_⟩
  · have hcells : ((Array.range (len * n)).map fun i => z.cells[i % z.cells.size]!) = (repL z.cells.toList len).toArray := by
      apply Array.toList_inj.1
      rw [← rep_eq z.cells (by omega) len, hs1]
      simp
    by_cases h0 : len * n = 0
    · have hl0 : len = 0 := by
        rcases Nat.eq_zero_or_pos len with h | h
        · exact h
        · have := Nat.mul_pos h hg1
          omega
      subst hl0
      simp only [repL] at hfo
      have e0 : (Array.map (fun _ => (default : Value)) (Array.range 0)) = ([] : List Value).toArray := Array.toList_inj.1 (by simp)
      simp only [Instr.buildSlice, Sem.run_bind, run_underlying hu, Result.andThen_ok, run_size hn]
      simp [e0, hfo, run_newRow]
    · simp only [Instr.buildSlice, Sem.run_bind, run_underlying hu, Result.andThen_ok, run_size hn, Sem.run_ite, if_neg h0, Sem.run_pure, run_zero hz]
      rw [if_neg (by omega)]
      simp only [hcells, hfo]
      simp [run_newRow]
  · have hE : Env.upd E j ⟨w.heap.size, 0, len⟩ j = some ⟨w.heap.size, 0, len⟩ := by simp [Env.upd]
    have hk : len < HALF := by
      have : len ≤ 16777216 := Nat.le_trans (Nat.le_mul_of_pos_right len hg1) hg2
      unfold HALF; omega
    have hco : capOf ⟨w.heap.size, 0, len⟩ len = len := by unfold capOf; rw [if_pos hk]
    have hp := VR.sl (o := 0) (n := len) (c := len) (a' := ⟨w.heap.size, 0, none⟩) hE (by rw [hco]; exact Nat.le_refl _) (.inl rfl)
    rw [hco] at hp
    exact hp

/-! ## Addresses -/
theorem ptr_add [Den] {i o k : Nat} {e : EI} (h : E i = some e) : VR E (.pointer (some (Addr.add ⟨i, o, none⟩ k))) (.pointer (some (Addr.add ⟨e.blk, e.off + o, none⟩ k))) := by
  rw [add_eq, add_eq, Nat.add_assoc]; exact .ptr h
theorem fieldAddr_sound [Den] {s : TypeId} {x x' v : Value} {f : Nat} (h : fieldAddrA P s x f = some v) (hx : VR E x x') :
    ∃ v', (Instr.fieldAt s x' f).run P w = .ok v' w ∧ VR E v v' := by
  unfold fieldAddrA at h
  split at h
  · rename_i i o
    split at h
    · rename_i fs hu
      split at h
      · rename_i fd hfd
        split at h
        · rename_i n hn
          cases hb : Nat.beq n 0 with
          | true => rw [hb] at h; simp at h
          | false =>
            rw [hb] at h
            simp only [cond_false, Option.some.injEq] at h
            subst h
            have hn0 : n ≠ 0 := fun e => by rw [e] at hb; cases hb
            cases hx with
            | ptr he =>
              refine ⟨_, ?_, ptr_add he⟩
              simp only [Instr.fieldAt, Sem.run_bind, run_underlying hu, Result.andThen_ok, hfd, Instr.sureAddr, Sem.run_pure, fieldPlace, run_size hn, if_neg hn0]
        · cases h
      · cases h
    · cases h
  · cases h

theorem inB_iff {i : Int} {n : Nat} : inB i n = true ↔ 0 ≤ i ∧ i < (n : Int) := by simp [inB]
theorem indexAddr_sound [Den] {t : TypeId} {x x' j j' v : Value} (h : indexAddrA P t x j = some v) (hx : VR E x x') (hj : VR E j j') :
    ∃ v', (Instr.indexAt t x' j').run P w = .ok v' w ∧ VR E v v' := by
  unfold indexAddrA at h
  split at h
  · rename_i k q
    cases hj
    split at h
    · rename_i len el a hu
      split at h
      · rename_i n hn
        cases hb : inB q len with
        | false => rw [hb] at h; simp at h
        | true =>
          rw [hb] at h
          simp only [cond_true, Option.some.injEq] at h
          subst h
          have hq := inB_iff.1 hb
          cases hx with
          | ptr he =>
            refine ⟨_, ?_, ptr_add he⟩
            simp only [Instr.indexAt, asIntOf, Sem.run_bind, Sem.run_pure, Result.andThen_ok, run_underlying hu, Instr.sureAddr, hq, and_self, if_true, run_size hn]
      · cases h
    · rename_i el a len cap hu
      split at h
      · rename_i n hn
        cases hb : inB q len with
        | false => rw [hb] at h; simp at h
        | true =>
          rw [hb] at h
          simp only [cond_true, Option.some.injEq] at h
          subst h
          have hq := inB_iff.1 hb
          cases hx with
          | sl he hnc ha =>
            rename_i i o e a'
            have ha' : a' = ⟨e.blk, e.off + o, none⟩ := by
              rcases ha with h | h
              · exact h
              · omega
            subst ha'
            refine ⟨_, ?_, ptr_add he⟩
            simp only [Instr.indexAt, asIntOf, Sem.run_bind, Sem.run_pure, Result.andThen_ok, run_underlying hu, hq, and_self, if_true, run_size hn]
      · cases h
    · cases h
  · cases h

theorem part_sound [Den] {t : TypeId} {cs cs' : Array Value} {off : Nat} {v : Value} (h : partA P t cs off = some v) (hc : LR E cs.toList cs'.toList) :
    ∃ v', (part t cs' off).run P w = .ok v' w ∧ VR E v v' := by
  unfold partA at h
  split at h
  · rename_i n ha hn
    cases h
    refine ⟨.agg (cs'.extract off (off + n)), ?_, .agg_of ?_⟩
    · simp only [part, Sem.run_bind, run_agg ha, Result.andThen_ok, if_true, run_size hn, Sem.run_pure]
    · rw [Array.toList_extract, Array.toList_extract]
      simp only [List.extract_eq_take_drop]
      exact (hc.drop _).take _
  · rename_i n ha hn
    obtain ⟨y, hy, hv⟩ := hc.get (k := off) (x := v) (by simpa using h)
    refine ⟨y, ?_, hv⟩
    have hy' : cs'[off]? = some y := by simpa using hy
    simp only [part, Sem.run_bind, run_agg ha, Result.andThen_ok, Bool.false_eq_true, if_false, hy', Sem.run_pure]
  · cases h
theorem index_sound [Den] {t : TypeId} {x x' j j' v : Value} (h : indexA P t x j = some v) (hx : VR E x x') (hj : VR E j j') :
    ∃ v', (Instr.index t x' j').run P w = .ok v' w ∧ VR E v v' := by
  unfold indexA at h
  split at h
  · rename_i k q
    cases hj
    split at h
    · rename_i len el cs hu
      split at h
      · rename_i n hn
        cases hb : inB q len with
        | false => rw [hb] at h; simp at h
        | true =>
          rw [hb] at h
          simp only [cond_true] at h
          have hq := inB_iff.1 hb
          cases hx with
          | agg h1 h2 =>
            rename_i cs'
            obtain ⟨v', hv1, hv2⟩ := part_sound (w := w) h ⟨h1, h2⟩
            refine ⟨v', ?_, hv2⟩
            simp only [Instr.index, asIntOf, Sem.run_bind, Sem.run_pure, Result.andThen_ok, run_underlying hu, hq, and_self, if_true, run_size hn, hv1]
      · cases h
    · rename_i s hu
      cases hb : inB q s.size with
      | false => rw [hb] at h; simp at h
      | true =>
        rw [hb] at h
        simp only [cond_true] at h
        have hq := inB_iff.1 hb
        cases hx
        split at h
        · rename_i b hs
          cases h
          refine ⟨_, ?_, .int _ _⟩
          simp only [Instr.index, asIntOf, Sem.run_bind, Sem.run_pure, Result.andThen_ok, run_underlying hu, hq.1, if_true, hs]
        · cases h
    · cases h
  · cases h
theorem field_sound [Den] {t : TypeId} {x x' v : Value} {f : Nat} (h : fieldA P t x f = some v) (hx : VR E x x') : ∃ v', (Instr.field t x' f).run P w = .ok v' w ∧ VR E v v' := by
  unfold fieldA at h
  split at h
  · rename_i cs
    cases hx with
    | agg h1 h2 =>
      rename_i cs'
      split at h
      · rename_i fs hu
        split at h
        · rename_i fd hfd
          obtain ⟨v', hv1, hv2⟩ := part_sound (w := w) h ⟨h1, h2⟩
          refine ⟨v', ?_, hv2⟩
          simp only [Instr.field, Sem.run_bind, run_underlying hu, Result.andThen_ok, hfd, asAgg, Sem.run_pure, hv1]
        · cases h
      · cases h
  · cases h
end
end Go.Sx

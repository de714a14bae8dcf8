import Derived.Test.YtpennfojidpmeaaSx8
namespace Go.Sx
section
variable {P : Program} {w0 : World} {F : Nat → Prop} {E : Env} {H : Heap} {w : World}

/-! ## Maps -/
def kindOf : Value → TypeDesc → Prop
  | .int _ _, .int _ => True
  | .string _, .string => True
  | .bool _, .bool => True
  | _, _ => False
theorem key_kind {t : TypeId} {v : Value} (h : keyB P t v = true) : ∃ d, P.underlying t = some d ∧ kindOf v d := by
  unfold keyB at h
  split at h <;> first | (cases h; done) | (rename_i hu; exact ⟨_, hu, trivial⟩)
theorem kind_plain {v : Value} {d : TypeDesc} (h : kindOf v d) : plainB v = true := by
  cases v <;> first | rfl | (exact h.elim)
theorem bytes_beq {a b : ByteArray} (h : (a == b) = true) : a = b := by
  cases a; cases b
  rename_i x y
  have h2 : (x == y) = true := h
  rw [eq_of_beq h2]
theorem bytes_refl (a : ByteArray) : (a == a) = true := by
  cases a
  rename_i x
  show (x == x) = true
  exact beq_self_eq_true x
theorem same_now {k a : Value} {d : TypeDesc} {b : Bool} (hk : kindOf k d) (h : sameA k a = some b) : plainB a = true ∧ Instr.sameNow d k a = some b ∧ (b = true → a = k) := by
  cases k with
  | bool x =>
    cases d <;> first | (exact hk.elim) | skip
    cases a <;> first | (simp only [sameA, reduceCtorEq] at h; done) | skip
    exact ⟨rfl, h, fun hb => by subst hb; have h2 := Option.some.inj h; have h3 := eq_of_beq h2; rw [h3]⟩
  | int i m =>
    cases d <;> first | (exact hk.elim) | skip
    cases a <;> first | (simp only [sameA, reduceCtorEq] at h; done) | skip
    rename_i _ j n
    simp only [sameA] at h
    by_cases hij : i = j
    · rw [if_pos hij] at h
      refine ⟨rfl, by simp only [Instr.sameNow, if_pos hij, h], fun hb => ?_⟩
      simp only [Option.some.injEq] at h; subst hb; simp at h; rw [hij, h]
    · rw [if_neg hij] at h; cases h
  | string x =>
    cases d <;> first | (exact hk.elim) | skip
    cases a <;> first | (simp only [sameA, reduceCtorEq] at h; done) | skip
    exact ⟨rfl, h, fun hb => by subst hb; have h2 := Option.some.inj h; have h3 := bytes_beq h2; rw [h3]⟩
  | _ => exact hk.elim

theorem find_now [Den] {k : Value} {d : TypeDesc} (hk : kindOf k d) : ∀ {es : List (Value × Value)} {ents : List MapEntry} {r : Option Value} (i : Nat), findA k es = some r → PR E es ents →
    (r = none ∧ Instr.findNow d k ents i = some none) ∨ (∃ v v' j, r = some v ∧ VR E v v' ∧ Instr.findNow d k ents i = some (some (i + j, v')))
  | [], ents, r, i, h, hp => by
    cases hp
    simp only [findA, Option.some.injEq] at h
    exact .inl ⟨h.symm, rfl⟩
  | (k', u) :: es, ents, r, i, h, hp => by
    cases hp with
    | cons hkk hv hp =>
      rename_i e ys
      simp only [findA] at h
      cases hs : sameA k k' with
      | none => rw [hs] at h; cases h
      | some b =>
        rw [hs] at h
        obtain ⟨h1, h2, h3⟩ := same_now hk hs
        have he : e.key = k' := hkk.plain h1
        cases b with
        | true =>
          simp only [Option.some.injEq] at h
          subst h
          exact .inr ⟨u, e.val, 0, rfl, hv, by simp [Instr.findNow, he, h2]⟩
        | false =>
          simp only at h
          rcases find_now hk (i + 1) h hp with ⟨q1, q2⟩ | ⟨v, v', j, q1, q2, q3⟩
          · exact .inl ⟨q1, by simp [Instr.findNow, he, h2, q2]⟩
          · exact .inr ⟨v, v', j + 1, q1, q2, by simp only [Instr.findNow, he, h2, q3]; congr 3; omega⟩
theorem put_now [Den] {k v v' : Value} {d : TypeDesc} (hk : kindOf k d) (hvv : VR E v v') : ∀ {es es' : List (Value × Value)} {ents : List MapEntry} (i : Nat), putA k v es = some es' → PR E es ents →
    (Instr.findNow d k ents i = some none ∧ ∀ n, PR E es' (ents ++ [{ key := k, val := v', born := n }])) ∨
    (∃ u j, Instr.findNow d k ents i = some (some (i + j, u)) ∧ (∃ e0, ents[j]? = some e0 ∧ e0.key = k) ∧ PR E es' (ents.modify j fun e => { e with key := k, val := v' }))
  | [], es', ents, i, h, hp => by
    cases hp
    simp only [putA, Option.some.injEq] at h
    subst h
    exact .inl ⟨rfl, fun n => .cons (VR.clean (by cases k <;> first | rfl | exact hk.elim)) hvv .nil⟩
  | (k', u) :: es, es', ents, i, h, hp => by
    cases hp with
    | cons hkk hv hp =>
      rename_i e ys
      simp only [putA] at h
      cases hs : sameA k k' with
      | none => rw [hs] at h; cases h
      | some b =>
        rw [hs] at h
        obtain ⟨h1, h2, h3⟩ := same_now hk hs
        have he : e.key = k' := hkk.plain h1
        cases b with
        | true =>
          simp only [Option.some.injEq] at h
          subst h
          refine .inr ⟨e.val, 0, by simp [Instr.findNow, he, h2], ⟨e, rfl, by rw [he, h3 rfl]⟩, ?_⟩
          simp only [List.modify_zero_cons]
          exact .cons (VR.clean (by cases k <;> first | rfl | exact hk.elim)) hvv hp
        | false =>
          simp only at h
          cases hq : putA k v es with
          | none => rw [hq] at h; cases h
          | some r =>
            rw [hq] at h
            simp only [Option.some.injEq] at h
            subst h
            rcases put_now hk hvv (i + 1) hq hp with ⟨q1, q2⟩ | ⟨x, j, q1, ⟨e0, q2, q3⟩, q4⟩
            · exact .inl ⟨by simp [Instr.findNow, he, h2, q1], fun n => .cons hkk hv (q2 n)⟩
            · refine .inr ⟨x, j + 1, by simp only [Instr.findNow, he, h2, q1]; congr 3; omega, ⟨e0, by simpa using q2, q3⟩, ?_⟩
              simp only [List.modify_succ_cons]
              exact .cons hkk hv q4
theorem drop_now [Den] {k : Value} {d : TypeDesc} (hk : kindOf k d) : ∀ {es es' : List (Value × Value)} {ents : List MapEntry} (i : Nat), dropA k es = some es' → PR E es ents →
    (Instr.findNow d k ents i = some none ∧ PR E es' ents) ∨ (∃ u j, Instr.findNow d k ents i = some (some (i + j, u)) ∧ j < ents.length ∧ PR E es' (ents.eraseIdx j))
  | [], es', ents, i, h, hp => by
    cases hp
    simp only [dropA, Option.some.injEq] at h
    subst h
    exact .inl ⟨rfl, .nil⟩
  | (k', u) :: es, es', ents, i, h, hp => by
    cases hp with
    | cons hkk hv hp =>
      rename_i e ys
      simp only [dropA] at h
      cases hs : sameA k k' with
      | none => rw [hs] at h; cases h
      | some b =>
        rw [hs] at h
        obtain ⟨h1, h2, h3⟩ := same_now hk hs
        have he : e.key = k' := hkk.plain h1
        cases b with
        | true =>
          simp only [Option.some.injEq] at h
          subst h
          exact .inr ⟨e.val, 0, by simp [Instr.findNow, he, h2], by simp, by simpa using hp⟩
        | false =>
          simp only at h
          cases hq : dropA k es with
          | none => rw [hq] at h; cases h
          | some r =>
            rw [hq] at h
            simp only [Option.some.injEq] at h
            subst h
            rcases drop_now hk (i + 1) hq hp with ⟨q1, q2⟩ | ⟨x, j, q1, q2, q3⟩
            · exact .inl ⟨by simp [Instr.findNow, he, h2, q1], .cons hkk hv q2⟩
            · refine .inr ⟨x, j + 1, by simp only [Instr.findNow, he, h2, q1]; congr 3; omega, by simp; omega, ?_⟩
              simp only [List.eraseIdx_cons_succ]
              exact .cons hkk hv q3
theorem check_key {t : TypeId} {k : Value} {d : TypeDesc} (hu : P.underlying t = some d) (hk : kindOf k d) (b : Bool) (w : World) : (Instr.checkKey b 10000 t k).run P w = .ok () w := by
  show (Instr.checkKey b (9999 + 1) t k).run P w = .ok () w
  unfold Instr.checkKey
  rw [Sem.run_bind, run_underlying hu, Result.andThen_ok]
  cases k <;> first | (exact hk.elim) | skip
  all_goals cases d <;> first | (exact hk.elim) | rfl
theorem find_key {t : TypeId} {k : Value} {d : TypeDesc} {es : List MapEntry} {r : Option (Nat × Value)} (hu : P.underlying t = some d) (h : Instr.findNow d k es 0 = some r) (w : World) :
    (Instr.findKey t k es).run P w = .ok r w := by
  simp [Instr.findKey, run_underlying hu, h]

theorem mapGet_inv {i c c' : Nat} {es : List (Value × Value)} {H' : Heap} {L : Lg} (h : mapGet i c H = .ok es c' H' L) : c' = c ∧ H' = H ∧ H.get i = some (.map es) := by
  unfold mapGet at h
  split at h
  · rename_i es' hi; cases h; exact ⟨rfl, rfl, hi⟩
  · cases h
theorem mapSet_inv {i c c' : Nat} {es : List (Value × Value)} {H' : Heap} {L : Lg} (h : mapSet i es c H = .ok () c' H' L) : c' = c ∧ H' = H.set i (.map es) := by
  unfold mapSet at h
  split at h
  · cases h; exact ⟨rfl, rfl⟩
  · cases h
theorem map_types {t kt et : TypeId} (h : mapT P t = some (kt, et)) : P.underlying t = some (.map kt et) := by
  unfold mapT at h; split at h
  · rename_i hu; cases h; exact hu
  · cases h
theorem run_getMap {r : Nat} {ents : Array MapEntry} {clock : Nat} (h : w.heap[r]? = some (.map ents clock)) : (getObj r).run P w = .ok (.map ents clock) w := by
  simp [getObj, Sem.run, h]
theorem run_setMap {r : Nat} {o o' : Obj} (h : w.heap[r]? = some o) (ho : ∀ c T fz, o ≠ .cells c T fz) : (setObj r o').run P w = .ok () { w with heap := w.heap.setIfInBounds r o' } := by
  cases o <;> first | (exact absurd rfl (ho _ _ _)) | simp [setObj, Sem.run, h]

theorem lookup_sound [Den] {t : TypeId} {x x' k k' v : Value} {ok : Bool} {c c' : Nat} {H' : Heap} {L : Lg} (h : lookupA P t x k ok c H = .ok v c' H' L) (hr : HR P w0 F E H w) (hx : VR E x x') (hk : VR E k k') :
    c' = c ∧ H' = H ∧ ∃ v', (Instr.lookup t x' k' ok).run P w = .ok v' w ∧ VR E v v' := by
  unfold lookupA at h
  replace h := bopt h
  obtain ⟨⟨kt, et⟩, _, hm, h⟩ := h
  simp only at h
  replace h := bguard h
  obtain ⟨_, hkb, h⟩ := h
  replace h := bopt h
  obtain ⟨z, _, hz, h⟩ := h
  replace h := bguard h
  obtain ⟨_, hcl, h⟩ := h
  replace h := bind_ok.1 h
  obtain ⟨es, c1, h1, _, _, hes, h, _⟩ := h
  have hu := map_types hm
  obtain ⟨d, hd, hkd⟩ := key_kind hkb
  have hkp := kind_plain hkd
  have hk' : k' = k := hk.plain hkp
  subst hk'
  have hzz := VR.clean (E := E) hcl
  have fin : ∀ (ents : List MapEntry), PR E es ents → ∀ r, findA k' es = some r → ∃ r', (Instr.findKey kt k' ents).run P w = .ok r' w ∧ ((r = none ∧ r' = none) ∨ ∃ v v' j, r = some v ∧ r' = some (j, v') ∧ VR E v v') := by
    intro ents hp r hf
    rcases find_now hkd 0 hf hp with ⟨q1, q2⟩ | ⟨v, v', j, q1, q2, q3⟩
    · exact ⟨none, find_key hd q2 w, .inl ⟨q1, rfl⟩⟩
    · exact ⟨_, find_key hd q3 w, .inr ⟨v, v', _, q1, rfl, q2⟩⟩
  have hck := fun b => check_key hd hkd b w
  have base : c1 = c ∧ h1 = H ∧ ∃ ents : List MapEntry, PR E es ents ∧ ∀ (r' : Option (Nat × Value)), (Instr.findKey kt k' ents).run P w = .ok r' w →
      (Instr.lookup t x' k' ok).run P w = .ok (if ok then .tuple #[(match r' with | some (_, v) => v | none => z), .bool (match r' with | some _ => true | none => false)] else (match r' with | some (_, v) => v | none => z)) w := by
    cases hx <;> simp only at hes <;> first | (exact (bad_ok.1 hes).elim) | skip
    · obtain ⟨q1, q2, q3, _⟩ := pure_ok.1 hes
      subst q1 q2 q3
      refine ⟨rfl, rfl, [], .nil, fun r' hf => ?_⟩
      simp only [Instr.lookup, Sem.run_bind, run_underlying hu, Result.andThen_ok, Sem.run_pure, hck, hf]
      cases r' <;> simp [run_zero hz]
    · rename_i i e he
      obtain ⟨q1, q2, hi⟩ := mapGet_inv hes
      subst q1 q2
      obtain ⟨e2, ents, clock, q1, q2, q3⟩ := hr.obj i _ hi
      rw [he] at q1; cases q1
      refine ⟨rfl, rfl, ents.toList, q3, fun r' hf => ?_⟩
      simp only [Instr.lookup, Sem.run_bind, run_underlying hu, Result.andThen_ok, run_getMap q2, Sem.run_pure, hck, hf]
      cases r' <;> simp [run_zero hz]
  obtain ⟨hc, hh, ents, hp, hrun⟩ := base
  subst hc hh
  cases hf : findA k' es with
  | none => rw [hf] at h; exact (bad_ok.1 h).elim
  | some r =>
    rw [hf] at h
    obtain ⟨r', hf', hcase⟩ := fin _ hp _ hf
    cases r with
    | some v0 =>
      obtain ⟨hv, hc, hh, _⟩ := pure_ok.1 h
      subst hc hh
      rcases hcase with ⟨q1, _⟩ | ⟨v1, v', j, q1, q2, q3⟩
      · cases q1
      · cases q1
        subst q2
        refine ⟨rfl, rfl, _, hrun _ hf', ?_⟩
        subst hv
        cases ok
        · simpa using q3
        · exact .tup_of (LR.cons q3 (LR.cons (.bool _) (LR.nil E)))
    | none =>
      obtain ⟨hv, hc, hh, _⟩ := pure_ok.1 h
      subst hc hh
      rcases hcase with ⟨q1, q2⟩ | ⟨v1, v', j, q1, q2, q3⟩
      · subst q2
        refine ⟨rfl, rfl, _, hrun _ hf', ?_⟩
        subst hv
        cases ok
        · simpa using hzz
        · exact .tup_of (LR.cons hzz (LR.cons (.bool _) (LR.nil E)))
      · cases q1

theorem update_sound [Den] {t : TypeId} {x x' k k' v v' : Value} {c c' : Nat} {H' : Heap} {L : Lg} (h : mapUpdateA P t x k v c H = .ok () c' H' L) (hr : HR P w0 F E H w) (hx : VR E x x') (hk : VR E k k') (hv : VR E v v') :
    c' = c ∧ ∃ w', (Instr.mapUpdate t x' k' v').run P w = .ok () w' ∧ HR P w0 F E H' w' := by
  unfold mapUpdateA at h
  replace h := bopt h
  obtain ⟨⟨kt, et⟩, _, hm, h⟩ := h
  simp only at h
  replace h := bguard h
  obtain ⟨_, hkb, h⟩ := h
  have hu := map_types hm
  obtain ⟨d, hd, hkd⟩ := key_kind hkb
  have hkp := kind_plain hkd
  have hk' : k' = k := hk.plain hkp
  subst hk'
  have hck := check_key hd hkd false w
  cases hx <;> simp only at h <;> first | (exact (bad_ok.1 h).elim) | skip
  rename_i i e he
  replace h := bind_ok.1 h
  obtain ⟨es, c1, h1, _, _, hes, h, _⟩ := h
  obtain ⟨q1, q2, hi⟩ := mapGet_inv hes
  subst q1 q2
  replace h := bopt h
  obtain ⟨es', _, hput, h⟩ := h
  obtain ⟨q1, q2⟩ := mapSet_inv h
  subst q1 q2
  obtain ⟨e2, ents, clock, m1, m2, m3⟩ := hr.obj i _ hi
  rw [he] at m1; cases m1
  have hlt : e.blk < w.heap.size := hr.blk_lt hi rfl he
  have turn : ∀ (ents2 : Array MapEntry) (clock2 : Nat), PR E es' ents2.toList → HR P w0 F E (h1.set i (.map es')) { w with heap := w.heap.setIfInBounds e.blk (.map ents2 clock2) } := by
    intro ents2 clock2 hp
    refine hr.turn hi rfl rfl he rfl rfl rfl (by simp) (fun b hb => ?_) ⟨e, ents2, clock2, he, ?_, hp⟩
    · rw [Array.getElem?_setIfInBounds_ne (Ne.symm hb)]
    · simp [hlt]
  refine ⟨rfl, ?_⟩
  rcases put_now hkd hv 0 hput m3 with ⟨q1, q2⟩ | ⟨u, j, q1, ⟨e0, q2, q3⟩, q4⟩
  · refine ⟨_, ?_, turn (ents.push { key := k', val := v', born := clock }) (clock + 1) (by simpa using q2 clock)⟩
    simp only [Instr.mapUpdate, Sem.run_bind, run_underlying hu, Result.andThen_ok, run_getMap m2, hck, find_key hd q1]
    exact run_setMap m2 (fun _ _ _ h => by cases h)
  · refine ⟨_, ?_, turn (ents.modify j fun e => { e with key := k', val := v' }) clock (by simpa using q4)⟩
    rw [Nat.zero_add] at q1
    have hkey : ((ents[j]?).map (·.key)).getD k' = k' := by
      have : ents[j]? = some e0 := by simpa using q2
      rw [this]; simpa using q3
    have hstay : (Instr.keyThatStays k' k').run P w = .ok k' w := by
      have hb : Instr.sameBits 10000 k' k' = true := by
        cases k' <;> first | (exact hkd.elim) | skip
        all_goals simp [Instr.sameBits, bytes_refl]
      simp [Instr.keyThatStays, hb]
    simp only [Instr.mapUpdate, Sem.run_bind, run_underlying hu, Result.andThen_ok, run_getMap m2, hck, find_key hd q1, hkey, hstay]
    exact run_setMap m2 (fun _ _ _ h => by cases h)

theorem delete_sound [Den] {ats : Array TypeId} {t ty : TypeId} (hat : ats[0]? = some t) {x x' k k' : Value} {c c' : Nat} {H' : Heap} {L : Lg} (h : deleteA P t x k c H = .ok () c' H' L) (hr : HR P w0 F E H w) (hx : VR E x x') (hk : VR E k k') :
    c' = c ∧ ∃ w', (Builtin.delete_ ats ty #[x', k']).run P w = .ok (.tuple #[]) w' ∧ HR P w0 F E H' w' := by
  unfold deleteA at h
  replace h := bopt h
  obtain ⟨⟨kt, et⟩, _, hm, h⟩ := h
  simp only at h
  replace h := bguard h
  obtain ⟨_, hkb, h⟩ := h
  have hu := map_types hm
  obtain ⟨d, hd, hkd⟩ := key_kind hkb
  have hkp := kind_plain hkd
  have hk' : k' = k := hk.plain hkp
  subst hk'
  have hck := fun b => check_key hd hkd b w
  cases hx <;> simp only at h <;> first | (exact (bad_ok.1 h).elim) | skip
  · obtain ⟨_, q1, q2, _⟩ := pure_ok.1 h
    subst q1 q2
    refine ⟨rfl, w, ?_, hr⟩
    simp [Builtin.delete_, hat, run_underlying hu, hck]
  rename_i i e he
  replace h := bind_ok.1 h
  obtain ⟨es, c1, h1, _, _, hes, h, _⟩ := h
  obtain ⟨q1, q2, hi⟩ := mapGet_inv hes
  subst q1 q2
  replace h := bopt h
  obtain ⟨es', _, hput, h⟩ := h
  obtain ⟨q1, q2⟩ := mapSet_inv h
  subst q1 q2
  obtain ⟨e2, ents, clock, m1, m2, m3⟩ := hr.obj i _ hi
  rw [he] at m1; cases m1
  have hlt : e.blk < w.heap.size := hr.blk_lt hi rfl he
  have turn : ∀ (ents2 : Array MapEntry) (clock2 : Nat), PR E es' ents2.toList → HR P w0 F E (h1.set i (.map es')) { w with heap := w.heap.setIfInBounds e.blk (.map ents2 clock2) } := by
    intro ents2 clock2 hp
    refine hr.turn hi rfl rfl he rfl rfl rfl (by simp) (fun b hb => ?_) ⟨e, ents2, clock2, he, ?_, hp⟩
    · rw [Array.getElem?_setIfInBounds_ne (Ne.symm hb)]
    · simp [hlt]
  refine ⟨rfl, ?_⟩
  rcases drop_now hkd 0 hput m3 with ⟨q1, q2⟩ | ⟨u, j, q1, q2, q3⟩
  · refine ⟨_, ?_, turn ents clock q2⟩
    simp [Builtin.delete_, hat, run_underlying hu, run_getMap m2, hck, find_key hd q1, run_setMap (P := P) (o' := .map ents clock) m2 (fun _ _ _ h => by cases h)]
  · refine ⟨_, ?_, turn (ents.eraseIdxIfInBounds j) clock (by simpa using q3)⟩
    rw [Nat.zero_add] at q1
    simp [Builtin.delete_, hat, run_underlying hu, run_getMap m2, hck, find_key hd q1, run_setMap (P := P) (o' := .map (ents.eraseIdxIfInBounds j) clock) m2 (fun _ _ _ h => by cases h)]

theorem PR.length [Den] {E : Env} {xs : List (Value × Value)} {ys : List MapEntry} (h : PR E xs ys) : xs.length = ys.length := by
  induction h with
  | nil => rfl
  | cons _ _ _ ih => simp [ih]
theorem len_sound [Den] {ats : Array TypeId} {t ty : TypeId} (hat : ats[0]? = some t) {x x' v : Value} {c c' : Nat} {H' : Heap} {L : Lg} (h : lenBuiltin P t x c H = .ok v c' H' L) (hr : HR P w0 F E H w) (hx : VR E x x') :
    c' = c ∧ H' = H ∧ ∃ v', (Builtin.len_ ats ty #[x']).run P w = .ok v' w ∧ VR E v v' := by
  unfold lenBuiltin at h
  cases hu : P.underlying t with
  | none => rw [hu] at h; exact (bad_ok.1 h).elim
  | some d =>
    rw [hu] at h
    cases d <;> simp only at h <;> first | (exact (bad_ok.1 h).elim) | skip
    · cases x <;> (try simp only at h) <;> first | (exact (bad_ok.1 h).elim) | skip
      obtain ⟨hv, hc, hh, _⟩ := pure_ok.1 h
      subst hv hc hh
      cases hx
      exact ⟨rfl, rfl, _, by simp [Builtin.len_, hat, run_underlying hu]; rfl, .int _ _⟩
    · cases x <;> (try simp only at h) <;> first | (exact (bad_ok.1 h).elim) | skip
      obtain ⟨hv, hc, hh, _⟩ := pure_ok.1 h
      subst hv hc hh
      cases hx <;> exact ⟨rfl, rfl, _, by simp [Builtin.len_, hat, run_underlying hu]; rfl, .int _ _⟩
    · obtain ⟨hv, hc, hh, _⟩ := pure_ok.1 h
      subst hv hc hh
      exact ⟨rfl, rfl, _, by simp [Builtin.len_, hat, run_underlying hu]; rfl, .int _ _⟩
    · cases x <;> (try simp only at h) <;> first | (exact (bad_ok.1 h).elim) | skip
      rename_i r
      cases r with
      | none =>
        obtain ⟨hv, hc, hh, _⟩ := pure_ok.1 h
        subst hv hc hh
        cases hx
        exact ⟨rfl, rfl, _, by simp [Builtin.len_, hat, run_underlying hu]; rfl, .int _ _⟩
      | some i =>
        simp only at h
        replace h := bind_ok.1 h
        obtain ⟨es, c1, h1, _, _, hes, h, _⟩ := h
        obtain ⟨q1, q2, hi⟩ := mapGet_inv hes
        subst q1 q2
        obtain ⟨hv, hc, hh, _⟩ := pure_ok.1 h
        subst hv hc hh
        cases hx with
        | map he =>
          rename_i e
          obtain ⟨e2, ents, clock, m1, m2, m3⟩ := hr.obj i _ hi
          rw [he] at m1; cases m1
          refine ⟨rfl, rfl, goInt ents.size, by simp [Builtin.len_, hat, run_underlying hu, run_getMap m2], ?_⟩
          have := m3.length
          rw [this, Array.length_toList]
          exact .int _ _
end
end Go.Sx

import Derived.Test.YtjpgnjaobfbojaaEb
import Derived.OrdersIn
import Derived.RangeFuncLeaves
import Derived.RangeFuncRecord
namespace Go.Sx
section
variable {P : Program} {w0 : World} {F : Nat → Prop} {E : Env} {H : Heap} {w : World}
def kindOf : Value → TypeDesc → Prop
  | .int _ _, .int _ => True
  | .string _, .string => True
  | .bool _, .bool => True
  | _, _ => False
theorem key_kind {t : TypeId} {v : Value} (h : keyB P t v = true) : ∃ d, P.underlying t = some d ∧ kindOf v d := by
  unfold keyB at h
  split at h <;> first | (cases h; done) | (rename_i hu; exact ⟨_, hu, trivial⟩)
theorem kind_plain {v : Value} {d : TypeDesc} (h : kindOf v d) : plainB v = true := by
  cases v <;> first | rfl | (exact h.elim)
theorem bytes_beq {a b : ByteArray} (h : (a == b) = true) : a = b := by
  cases a; cases b
  rename_i x y
  have h2 : (x == y) = true := h
  rw [eq_of_beq h2]
theorem bytes_refl (a : ByteArray) : (a == a) = true := by
  cases a
  rename_i x
  show (x == x) = true
  exact beq_self_eq_true x
theorem same_now {k a : Value} {d : TypeDesc} {b : Bool} (hk : kindOf k d) (h : sameA k a = some b) : plainB a = true ∧ Instr.sameNow d k a = some b ∧ (b = true → a = k) := by
  cases k with
  | bool x =>
    cases d <;> first | (exact hk.elim) | skip
    cases a <;> first | (simp only [sameA, reduceCtorEq] at h; done) | skip
    exact ⟨rfl, h, fun hb => by subst hb; have h2 := Option.some.inj h; have h3 := eq_of_beq h2; rw [h3]⟩
  | int i m =>
    cases d <;> first | (exact hk.elim) | skip
    cases a <;> first | (simp only [sameA, reduceCtorEq] at h; done) | skip
    rename_i _ j n
    simp only [sameA] at h
    by_cases hij : i = j
    · rw [if_pos hij] at h
      refine ⟨rfl, by simp only [Instr.sameNow, if_pos hij, h], fun hb => ?_⟩
      simp only [Option.some.injEq] at h; subst hb; simp at h; rw [hij, h]
    · rw [if_neg hij] at h; cases h
  | string x =>
    cases d <;> first | (exact hk.elim) | skip
    cases a <;> first | (simp only [sameA, reduceCtorEq] at h; done) | skip
    exact ⟨rfl, h, fun hb => by subst hb; have h2 := Option.some.inj h; have h3 := bytes_beq h2; rw [h3]⟩
  | _ => exact hk.elim
theorem find_now [Den] {k : Value} {d : TypeDesc} (hk : kindOf k d) : ∀ {es : List (Value × Value)} {ents : List MapEntry} {r : Option Value} (i : Nat), findA k es = some r → PR E es ents →
    (r = none ∧ Instr.findNow d k ents i = some none) ∨ (∃ v v' j, r = some v ∧ VR E v v' ∧ Instr.findNow d k ents i = some (some (i + j, v')))
  | [], ents, r, i, h, hp => by
    cases hp
    simp only [findA, Option.some.injEq] at h
    exact .inl ⟨h.symm, rfl⟩
  | (k', u) :: es, ents, r, i, h, hp => by
    cases hp with
    | cons hkk hv hp =>
      rename_i e ys
      simp only [findA] at h
      cases hs : sameA k k' with
      | none => rw [hs] at h; cases h
      | some b =>
        rw [hs] at h
        obtain ⟨h1, h2, h3⟩ := same_now hk hs
        have he : e.key = k' := hkk.plain h1
        cases b with
        | true =>
          simp only [Option.some.injEq] at h
          subst h
          exact .inr ⟨u, e.val, 0, rfl, hv, by simp [Instr.findNow, he, h2]⟩
        | false =>
          simp only at h
          rcases find_now hk (i + 1) h hp with ⟨q1, q2⟩ | ⟨v, v', j, q1, q2, q3⟩
          · exact .inl ⟨q1, by simp [Instr.findNow, he, h2, q2]⟩
          · exact .inr ⟨v, v', j + 1, q1, q2, by simp only [Instr.findNow, he, h2, q3]; congr 3; omega⟩
theorem put_now [Den] {k v v' : Value} {d : TypeDesc} (hk : kindOf k d) (hvv : VR E v v') : ∀ {es es' : List (Value × Value)} {ents : List MapEntry} (i : Nat), putA k v es = some es' → PR E es ents →
    (Instr.findNow d k ents i = some none ∧ ∀ n, PR E es' (ents ++ [{ key := k, val := v', born := n }])) ∨
    (∃ u j, Instr.findNow d k ents i = some (some (i + j, u)) ∧ (∃ e0, ents[j]? = some e0 ∧ e0.key = k) ∧ PR E es' (ents.modify j fun e => { e with key := k, val := v' }))
  | [], es', ents, i, h, hp => by
    cases hp
    simp only [putA, Option.some.injEq] at h
    subst h
    exact .inl ⟨rfl, fun n => .cons (VR.clean (by cases k <;> first | rfl | exact hk.elim)) hvv .nil⟩
  | (k', u) :: es, es', ents, i, h, hp => by
    cases hp with
    | cons hkk hv hp =>
      rename_i e ys
      simp only [putA] at h
      cases hs : sameA k k' with
      | none => rw [hs] at h; cases h
      | some b =>
        rw [hs] at h
        obtain ⟨h1, h2, h3⟩ := same_now hk hs
        have he : e.key = k' := hkk.plain h1
        cases b with
        | true =>
          simp only [Option.some.injEq] at h
          subst h
          refine .inr ⟨e.val, 0, by simp [Instr.findNow, he, h2], ⟨e, rfl, by rw [he, h3 rfl]⟩, ?_⟩
          simp only [List.modify_zero_cons]
          exact .cons (VR.clean (by cases k <;> first | rfl | exact hk.elim)) hvv hp
        | false =>
          simp only at h
          cases hq : putA k v es with
          | none => rw [hq] at h; cases h
          | some r =>
            rw [hq] at h
            simp only [Option.some.injEq] at h
            subst h
            rcases put_now hk hvv (i + 1) hq hp with ⟨q1, q2⟩ | ⟨x, j, q1, ⟨e0, q2, q3⟩, q4⟩
            · exact .inl ⟨by simp [Instr.findNow, he, h2, q1], fun n => .cons hkk hv (q2 n)⟩
            · refine .inr ⟨x, j + 1, by simp only [Instr.findNow, he, h2, q1]; congr 3; omega, ⟨e0, by simpa using q2, q3⟩, ?_⟩
              simp only [List.modify_succ_cons]
              exact .cons hkk hv q4
theorem drop_now [Den] {k : Value} {d : TypeDesc} (hk : kindOf k d) : ∀ {es es' : List (Value × Value)} {ents : List MapEntry} (i : Nat), dropA k es = some es' → PR E es ents →
    (Instr.findNow d k ents i = some none ∧ PR E es' ents) ∨ (∃ u j, Instr.findNow d k ents i = some (some (i + j, u)) ∧ j < ents.length ∧ PR E es' (ents.eraseIdx j))
  | [], es', ents, i, h, hp => by
    cases hp
    simp only [dropA, Option.some.injEq] at h
    subst h
    exact .inl ⟨rfl, .nil⟩
  | (k', u) :: es, es', ents, i, h, hp => by
    cases hp with
    | cons hkk hv hp =>
      rename_i e ys
      simp only [dropA] at h
      cases hs : sameA k k' with
      | none => rw [hs] at h; cases h
      | some b =>
        rw [hs] at h
        obtain ⟨h1, h2, h3⟩ := same_now hk hs
        have he : e.key = k' := hkk.plain h1
        cases b with
        | true =>
          simp only [Option.some.injEq] at h
          subst h
          exact .inr ⟨e.val, 0, by simp [Instr.findNow, he, h2], by simp, by simpa using hp⟩
        | false =>
          simp only at h
          cases hq : dropA k es with
          | none => rw [hq] at h; cases h
          | some r =>
            rw [hq] at h
            simp only [Option.some.injEq] at h
            subst h
            rcases drop_now hk (i + 1) hq hp with ⟨q1, q2⟩ | ⟨x, j, q1, q2, q3⟩
            · exact .inl ⟨by simp [Instr.findNow, he, h2, q1], .cons hkk hv q2⟩
            · refine .inr ⟨x, j + 1, by simp only [Instr.findNow, he, h2, q1]; congr 3; omega, by simp; omega, ?_⟩
              simp only [List.eraseIdx_cons_succ]
              exact .cons hkk hv q3
theorem check_key {t : TypeId} {k : Value} {d : TypeDesc} (hu : P.underlying t = some d) (hk : kindOf k d) (b : Bool) (w : World) : (Instr.checkKey b 10000 t k).run P w = .ok () w := by
  show (Instr.checkKey b (9999 + 1) t k).run P w = .ok () w
  unfold Instr.checkKey
  rw [Sem.run_bind, run_underlying hu, Result.andThen_ok]
  cases k <;> first | (exact hk.elim) | skip
  all_goals cases d <;> first | (exact hk.elim) | rfl
theorem find_key {t : TypeId} {k : Value} {d : TypeDesc} {es : List MapEntry} {r : Option (Nat × Value)} (hu : P.underlying t = some d) (h : Instr.findNow d k es 0 = some r) (w : World) :
    (Instr.findKey t k es).run P w = .ok r w := by
  simp [Instr.findKey, run_underlying hu, h]
theorem mapGet_inv {i c c' : Nat} {es : List (Value × Value)} {H' : Heap} {L : Lg} (h : mapGet i c H = .ok es c' H' L) : c' = c ∧ H' = H ∧ H.get i = some (.map es) := by
  unfold mapGet at h
  split at h
  · rename_i es' hi; cases h; exact ⟨rfl, rfl, hi⟩
  · cases h
theorem mapSet_inv {i c c' : Nat} {es : List (Value × Value)} {H' : Heap} {L : Lg} (h : mapSet i es c H = .ok () c' H' L) : c' = c ∧ H' = H.set i (.map es) := by
  unfold mapSet at h
  split at h
  · cases h; exact ⟨rfl, rfl⟩
  · cases h
theorem map_types {t kt et : TypeId} (h : mapT P t = some (kt, et)) : P.underlying t = some (.map kt et) := by
  unfold mapT at h; split at h
  · rename_i hu; cases h; exact hu
  · cases h
theorem run_getMap {r : Nat} {ents : Array MapEntry} {clock : Nat} (h : w.heap[r]? = some (.map ents clock)) : (getObj r).run P w = .ok (.map ents clock) w := by
  simp [getObj, Sem.run, h]
theorem run_setMap {r : Nat} {o o' : Obj} (h : w.heap[r]? = some o) (ho : ∀ c T fz, o ≠ .cells c T fz) : (setObj r o').run P w = .ok () { w with heap := w.heap.setIfInBounds r o' } := by
  cases o <;> first | (exact absurd rfl (ho _ _ _)) | simp [setObj, Sem.run, h]
theorem lookup_sound [Den] {t : TypeId} {x x' k k' v : Value} {ok : Bool} {c c' : Nat} {H' : Heap} {L : Lg} (h : lookupA P t x k ok c H = .ok v c' H' L) (hr : HR P w0 F E H w) (hx : VR E x x') (hk : VR E k k') :
    c' = c ∧ H' = H ∧ ∃ v', (Instr.lookup t x' k' ok).run P w = .ok v' w ∧ VR E v v' := by
  unfold lookupA at h
  replace h := bopt h
  obtain ⟨⟨kt, et⟩, _, hm, h⟩ := h
  simp only at h
  replace h := bguard h
  obtain ⟨_, hkb, h⟩ := h
  replace h := bopt h
  obtain ⟨z, _, hz, h⟩ := h
  replace h := bguard h
  obtain ⟨_, hcl, h⟩ := h
  replace h := bind_ok.1 h
  obtain ⟨es, c1, h1, _, _, hes, h, _⟩ := h
  have hu := map_types hm
  obtain ⟨d, hd, hkd⟩ := key_kind hkb
  have hkp := kind_plain hkd
  have hk' : k' = k := hk.plain hkp
  subst hk'
  have hzz := VR.clean (E := E) hcl
  have fin : ∀ (ents : List MapEntry), PR E es ents → ∀ r, findA k' es = some r → ∃ r', (Instr.findKey kt k' ents).run P w = .ok r' w ∧ ((r = none ∧ r' = none) ∨ ∃ v v' j, r = some v ∧ r' = some (j, v') ∧ VR E v v') := by
    intro ents hp r hf
    rcases find_now hkd 0 hf hp with ⟨q1, q2⟩ | ⟨v, v', j, q1, q2, q3⟩
    · exact ⟨none, find_key hd q2 w, .inl ⟨q1, rfl⟩⟩
    · exact ⟨_, find_key hd q3 w, .inr ⟨v, v', _, q1, rfl, q2⟩⟩
  have hck := fun b => check_key hd hkd b w
  have base : c1 = c ∧ h1 = H ∧ ∃ ents : List MapEntry, PR E es ents ∧ ∀ (r' : Option (Nat × Value)), (Instr.findKey kt k' ents).run P w = .ok r' w →
      (Instr.lookup t x' k' ok).run P w = .ok (if ok then .tuple #[(match r' with | some (_, v) => v | none => z), .bool (match r' with | some _ => true | none => false)] else (match r' with | some (_, v) => v | none => z)) w := by
    cases hx <;> simp only at hes <;> first | (exact (bad_ok.1 hes).elim) | skip
    · obtain ⟨q1, q2, q3, _⟩ := pure_ok.1 hes
      subst q1 q2 q3
      refine ⟨rfl, rfl, [], .nil, fun r' hf => ?_⟩
      simp only [Instr.lookup, Sem.run_bind, run_underlying hu, Result.andThen_ok, Sem.run_pure, hck, hf]
      cases r' <;> simp [run_zero hz]
    · rename_i i e he
      obtain ⟨q1, q2, hi⟩ := mapGet_inv hes
      subst q1 q2
      obtain ⟨e2, ents, clock, q1, q2, q3⟩ := hr.obj i _ hi
      rw [he] at q1; cases q1
      refine ⟨rfl, rfl, ents.toList, q3, fun r' hf => ?_⟩
      simp only [Instr.lookup, Sem.run_bind, run_underlying hu, Result.andThen_ok, run_getMap q2, Sem.run_pure, hck, hf]
      cases r' <;> simp [run_zero hz]
  obtain ⟨hc, hh, ents, hp, hrun⟩ := base
  subst hc hh
  cases hf : findA k' es with
  | none => rw [hf] at h; exact (bad_ok.1 h).elim
  | some r =>
    rw [hf] at h
    obtain ⟨r', hf', hcase⟩ := fin _ hp _ hf
    cases r with
    | some v0 =>
      obtain ⟨hv, hc, hh, _⟩ := pure_ok.1 h
      subst hc hh
      rcases hcase with ⟨q1, _⟩ | ⟨v1, v', j, q1, q2, q3⟩
      · cases q1
      · cases q1
        subst q2
        refine ⟨rfl, rfl, _, hrun _ hf', ?_⟩
        subst hv
        cases ok
        · simpa using q3
        · exact .tup_of (LR.cons q3 (LR.cons (.bool _) (LR.nil E)))
    | none =>
      obtain ⟨hv, hc, hh, _⟩ := pure_ok.1 h
      subst hc hh
      rcases hcase with ⟨q1, q2⟩ | ⟨v1, v', j, q1, q2, q3⟩
      · subst q2
        refine ⟨rfl, rfl, _, hrun _ hf', ?_⟩
        subst hv
        cases ok
        · simpa using hzz
        · exact .tup_of (LR.cons hzz (LR.cons (.bool _) (LR.nil E)))
      · cases q1
theorem update_sound [Den] {t : TypeId} {x x' k k' v v' : Value} {c c' : Nat} {H' : Heap} {L : Lg} (h : mapUpdateA P t x k v c H = .ok () c' H' L) (hr : HR P w0 F E H w) (hx : VR E x x') (hk : VR E k k') (hv : VR E v v') :
    c' = c ∧ ∃ w', (Instr.mapUpdate t x' k' v').run P w = .ok () w' ∧ HR P w0 F E H' w' := by
  unfold mapUpdateA at h
  replace h := bopt h
  obtain ⟨⟨kt, et⟩, _, hm, h⟩ := h
  simp only at h
  replace h := bguard h
  obtain ⟨_, hkb, h⟩ := h
  have hu := map_types hm
  obtain ⟨d, hd, hkd⟩ := key_kind hkb
  have hkp := kind_plain hkd
  have hk' : k' = k := hk.plain hkp
  subst hk'
  have hck := check_key hd hkd false w
  cases hx <;> simp only at h <;> first | (exact (bad_ok.1 h).elim) | skip
  rename_i i e he
  replace h := bind_ok.1 h
  obtain ⟨es, c1, h1, _, _, hes, h, _⟩ := h
  obtain ⟨q1, q2, hi⟩ := mapGet_inv hes
  subst q1 q2
  replace h := bopt h
  obtain ⟨es', _, hput, h⟩ := h
  obtain ⟨q1, q2⟩ := mapSet_inv h
  subst q1 q2
  obtain ⟨e2, ents, clock, m1, m2, m3⟩ := hr.obj i _ hi
  rw [he] at m1; cases m1
  have hlt : e.blk < w.heap.size := hr.blk_lt hi rfl he
  have turn : ∀ (ents2 : Array MapEntry) (clock2 : Nat), PR E es' ents2.toList → HR P w0 F E (h1.set i (.map es')) { w with heap := w.heap.setIfInBounds e.blk (.map ents2 clock2) } := by
    intro ents2 clock2 hp
    refine hr.turn hi rfl rfl he rfl rfl rfl (by simp) (fun b hb => ?_) ⟨e, ents2, clock2, he, ?_, hp⟩
    · rw [Array.getElem?_setIfInBounds_ne (Ne.symm hb)]
    · simp [hlt]
  refine ⟨rfl, ?_⟩
  rcases put_now hkd hv 0 hput m3 with ⟨q1, q2⟩ | ⟨u, j, q1, ⟨e0, q2, q3⟩, q4⟩
  · refine ⟨_, ?_, turn (ents.push { key := k', val := v', born := clock }) (clock + 1) (by simpa using q2 clock)⟩
    simp only [Instr.mapUpdate, Sem.run_bind, run_underlying hu, Result.andThen_ok, run_getMap m2, hck, find_key hd q1]
    exact run_setMap m2 (fun _ _ _ h => by cases h)
  · refine ⟨_, ?_, turn (ents.modify j fun e => { e with key := k', val := v' }) clock (by simpa using q4)⟩
    rw [Nat.zero_add] at q1
    have hkey : ((ents[j]?).map (·.key)).getD k' = k' := by
      have : ents[j]? = some e0 := by simpa using q2
      rw [this]; simpa using q3
    have hstay : (Instr.keyThatStays k' k').run P w = .ok k' w := by
      have hb : Instr.sameBits 10000 k' k' = true := by
        cases k' <;> first | (exact hkd.elim) | skip
        all_goals simp [Instr.sameBits, bytes_refl]
      simp [Instr.keyThatStays, hb]
    simp only [Instr.mapUpdate, Sem.run_bind, run_underlying hu, Result.andThen_ok, run_getMap m2, hck, find_key hd q1, hkey, hstay]
    exact run_setMap m2 (fun _ _ _ h => by cases h)
theorem delete_sound [Den] {ats : Array TypeId} {t ty : TypeId} (hat : ats[0]? = some t) {x x' k k' : Value} {c c' : Nat} {H' : Heap} {L : Lg} (h : deleteA P t x k c H = .ok () c' H' L) (hr : HR P w0 F E H w) (hx : VR E x x') (hk : VR E k k') :
    c' = c ∧ ∃ w', (Builtin.delete_ ats ty #[x', k']).run P w = .ok (.tuple #[]) w' ∧ HR P w0 F E H' w' := by
  unfold deleteA at h
  replace h := bopt h
  obtain ⟨⟨kt, et⟩, _, hm, h⟩ := h
  simp only at h
  replace h := bguard h
  obtain ⟨_, hkb, h⟩ := h
  have hu := map_types hm
  obtain ⟨d, hd, hkd⟩ := key_kind hkb
  have hkp := kind_plain hkd
  have hk' : k' = k := hk.plain hkp
  subst hk'
  have hck := fun b => check_key hd hkd b w
  cases hx <;> simp only at h <;> first | (exact (bad_ok.1 h).elim) | skip
  · obtain ⟨_, q1, q2, _⟩ := pure_ok.1 h
    subst q1 q2
    refine ⟨rfl, w, ?_, hr⟩
    simp [Builtin.delete_, hat, run_underlying hu, hck]
  rename_i i e he
  replace h := bind_ok.1 h
  obtain ⟨es, c1, h1, _, _, hes, h, _⟩ := h
  obtain ⟨q1, q2, hi⟩ := mapGet_inv hes
  subst q1 q2
  replace h := bopt h
  obtain ⟨es', _, hput, h⟩ := h
  obtain ⟨q1, q2⟩ := mapSet_inv h
  subst q1 q2
  obtain ⟨e2, ents, clock, m1, m2, m3⟩ := hr.obj i _ hi
  rw [he] at m1; cases m1
  have hlt : e.blk < w.heap.size := hr.blk_lt hi rfl he
  have turn : ∀ (ents2 : Array MapEntry) (clock2 : Nat), PR E es' ents2.toList → HR P w0 F E (h1.set i (.map es')) { w with heap := w.heap.setIfInBounds e.blk (.map ents2 clock2) } := by
    intro ents2 clock2 hp
    refine hr.turn hi rfl rfl he rfl rfl rfl (by simp) (fun b hb => ?_) ⟨e, ents2, clock2, he, ?_, hp⟩
    · rw [Array.getElem?_setIfInBounds_ne (Ne.symm hb)]
    · simp [hlt]
  refine ⟨rfl, ?_⟩
  rcases drop_now hkd 0 hput m3 with ⟨q1, q2⟩ | ⟨u, j, q1, q2, q3⟩
  · refine ⟨_, ?_, turn ents clock q2⟩
    simp [Builtin.delete_, hat, run_underlying hu, run_getMap m2, hck, find_key hd q1, run_setMap (P := P) (o' := .map ents clock) m2 (fun _ _ _ h => by cases h)]
  · refine ⟨_, ?_, turn (ents.eraseIdxIfInBounds j) clock (by simpa using q3)⟩
    rw [Nat.zero_add] at q1
    simp [Builtin.delete_, hat, run_underlying hu, run_getMap m2, hck, find_key hd q1, run_setMap (P := P) (o' := .map (ents.eraseIdxIfInBounds j) clock) m2 (fun _ _ _ h => by cases h)]
theorem PR.length [Den] {E : Env} {xs : List (Value × Value)} {ys : List MapEntry} (h : PR E xs ys) : xs.length = ys.length := by
  induction h with
  | nil => rfl
  | cons _ _ _ ih => simp [ih]
theorem len_sound [Den] {ats : Array TypeId} {t ty : TypeId} (hat : ats[0]? = some t) {x x' v : Value} {c c' : Nat} {H' : Heap} {L : Lg} (h : lenBuiltin P t x c H = .ok v c' H' L) (hr : HR P w0 F E H w) (hx : VR E x x') :
    c' = c ∧ H' = H ∧ ∃ v', (Builtin.len_ ats ty #[x']).run P w = .ok v' w ∧ VR E v v' := by
  unfold lenBuiltin at h
  cases hu : P.underlying t with
  | none => rw [hu] at h; exact (bad_ok.1 h).elim
  | some d =>
    rw [hu] at h
    cases d <;> simp only at h <;> first | (exact (bad_ok.1 h).elim) | skip
    · cases x <;> (try simp only at h) <;> first | (exact (bad_ok.1 h).elim) | skip
      obtain ⟨hv, hc, hh, _⟩ := pure_ok.1 h
      subst hv hc hh
      cases hx
      exact ⟨rfl, rfl, _, by simp [Builtin.len_, hat, run_underlying hu]; rfl, .int _ _⟩
    · cases x <;> (try simp only at h) <;> first | (exact (bad_ok.1 h).elim) | skip
      obtain ⟨hv, hc, hh, _⟩ := pure_ok.1 h
      subst hv hc hh
      cases hx <;> exact ⟨rfl, rfl, _, by simp [Builtin.len_, hat, run_underlying hu]; rfl, .int _ _⟩
    · obtain ⟨hv, hc, hh, _⟩ := pure_ok.1 h
      subst hv hc hh
      exact ⟨rfl, rfl, _, by simp [Builtin.len_, hat, run_underlying hu]; rfl, .int _ _⟩
    · cases x <;> (try simp only at h) <;> first | (exact (bad_ok.1 h).elim) | skip
      rename_i r
      cases r with
      | none =>
        obtain ⟨hv, hc, hh, _⟩ := pure_ok.1 h
        subst hv hc hh
        cases hx
        exact ⟨rfl, rfl, _, by simp [Builtin.len_, hat, run_underlying hu]; rfl, .int _ _⟩
      | some i =>
        simp only at h
        replace h := bind_ok.1 h
        obtain ⟨es, c1, h1, _, _, hes, h, _⟩ := h
        obtain ⟨q1, q2, hi⟩ := mapGet_inv hes
        subst q1 q2
        obtain ⟨hv, hc, hh, _⟩ := pure_ok.1 h
        subst hv hc hh
        cases hx with
        | map he =>
          rename_i e
          obtain ⟨e2, ents, clock, m1, m2, m3⟩ := hr.obj i _ hi
          rw [he] at m1; cases m1
          refine ⟨rfl, rfl, goInt ents.size, by simp [Builtin.len_, hat, run_underlying hu, run_getMap m2], ?_⟩
          have := m3.length
          rw [this, Array.length_toList]
          exact .int _ _
end
end Go.Sx
namespace Go.Sx
section
variable {P : Program} {w0 : World} {F : Nat → Prop} {E : Env} {H : Heap} {w : World}
def Quiet (P : Program) {α : Type} (m : Sem α) : Prop := ∀ w w2 a w1, m.run P w = .ok a w1 → w1 = w ∧ m.run P w2 = .ok a w2
def Never (P : Program) {α : Type} (m : Sem α) : Prop := ∀ w a w1, m.run P w ≠ .ok a w1
theorem Never.quiet {α : Type} {m : Sem α} (h : Never P m) : Quiet P m := fun w _ a w1 e => absurd e (h w a w1)
theorem Quiet.pure {α : Type} (a : α) : Quiet P (Pure.pure a : Sem α) := fun w w2 b w1 h => by
  simp only [Sem.run_pure, Result.ok.injEq] at h
  obtain ⟨rfl, rfl⟩ := h
  exact ⟨rfl, rfl⟩
theorem Quiet.bind {α β : Type} {m : Sem α} {f : α → Sem β} (h : Quiet P m) (hf : ∀ a, (∃ w w', m.run P w = .ok a w') → Quiet P (f a)) : Quiet P (m >>= f) := fun w w2 b w1 e => by
  rw [Sem.run_bind] at e ⊢
  cases hm : m.run P w with
  | halt x w' => rw [hm] at e; cases e
  | ok a w' =>
    rw [hm] at e
    obtain ⟨rfl, h2⟩ := h w w2 a w' hm
    obtain ⟨rfl, h3⟩ := hf a ⟨_, _, hm⟩ _ w2 b w1 e
    exact ⟨rfl, by rw [h2]; exact h3⟩
theorem never_stuck {α : Type} (why : String) : Never P (stuck why : Sem α) := fun w a w1 h => by simp at h
theorem never_unsupported {α : Type} (u : Unsupported) : Never P (unsupported u : Sem α) := fun w a w1 h => by simp at h
theorem never_bind {α β : Type} {m : Sem α} {f : α → Sem β} (h : ∀ a, Never P (f a)) : Never P (m >>= f) := fun w b w1 e => by
  rw [Sem.run_bind] at e
  cases hm : m.run P w with
  | halt x w' => rw [hm] at e; cases e
  | ok a w' => rw [hm] at e; exact h a _ _ _ e
theorem never_bind' {α β : Type} {m : Sem α} {f : α → Sem β} (h : Never P m) : Never P (m >>= f) := fun w b w1 e => by
  rw [Sem.run_bind] at e
  cases hm : m.run P w with
  | halt x w' => rw [hm] at e; cases e
  | ok a w' => exact h _ _ _ hm
theorem never_panic {α : Type} (v : Value) : Never P (goPanic v : Sem α) := fun w a w1 h => by simp at h
theorem never_runtime {α : Type} (e : RuntimeError) : Never P (runtimePanic e : Sem α) := by
  unfold runtimePanic
  refine never_bind fun p => ?_
  cases e <;> simp only <;> first
    | exact never_panic _
    | exact never_bind fun _ => never_bind fun _ => never_panic _
theorem quiet_underlying (t : TypeId) : Quiet P (underlying t) := fun w w2 a w1 h => by
  cases hu : P.underlying t with
  | none => simp [underlying, hu] at h
  | some d => rw [run_underlying hu] at h ⊢; cases h; exact ⟨rfl, rfl⟩
theorem quiet_program : Quiet P program := fun w w2 a w1 h => by simp only [run_program, Result.ok.injEq] at h ⊢; exact ⟨h.2.symm, h.1, trivial⟩
theorem quiet_info (t : TypeId) : Quiet P (typeInfo t) := fun w w2 a w1 h => by
  cases hu : P.info? t with
  | none => simp [typeInfo, hu] at h
  | some d => rw [run_info hu] at h ⊢; cases h; exact ⟨rfl, rfl⟩
theorem quiet_size (t : TypeId) : Quiet P (sizeOf t) := Quiet.bind (quiet_info t) fun _ _ => Quiet.pure _
theorem quiet_agg (t : TypeId) : Quiet P (isAgg t) := by
  unfold isAgg
  refine Quiet.bind (quiet_underlying t) fun d _ => ?_
  cases d <;> exact Quiet.pure _
theorem quiet_part (t : TypeId) (cs : Array Value) (off : Nat) : Quiet P (part t cs off) := by
  unfold part
  refine Quiet.bind (quiet_agg t) fun b _ => ?_
  cases b
  · simp only [Bool.false_eq_true, if_false]
    cases cs[off]? with
    | none => exact (never_stuck _).quiet
    | some v => exact Quiet.pure _
  · simp only [if_true]
    exact Quiet.bind (quiet_size t) fun _ _ => Quiet.pure _
theorem plainS_B {v : Value} (h : plainS v = true) : plainB v = true := by cases v <;> first | exact h | (simp [plainS] at h)
theorem part_plain {t : TypeId} {cs : Array Value} {off : Nat} {v : Value} {w1 : World} (hc : plainB (.agg cs) = true) (h : (part t cs off).run P w = .ok v w1) : plainB v = true := by
  unfold part at h
  rw [Sem.run_bind] at h
  cases hb : (isAgg t).run P w with
  | halt x w' => rw [hb] at h; cases h
  | ok b w' =>
    rw [hb] at h
    cases b
    · simp only [Result.andThen_ok, Bool.false_eq_true, if_false] at h
      cases hx : cs[off]? with
      | none => rw [hx] at h; simp at h
      | some u =>
        rw [hx] at h
        simp only [Sem.run_pure, Result.ok.injEq] at h
        obtain ⟨rfl, _⟩ := h
        exact plainS_B (List.all_eq_true.1 hc u (by
          have : cs.toList[off]? = some u := by simpa using hx
          exact List.mem_of_getElem? this))
    · simp only [Result.andThen_ok, if_true, Sem.run_bind] at h
      cases hs : (sizeOf t).run P w' with
      | halt x w'' => rw [hs] at h; cases h
      | ok n w'' =>
        rw [hs] at h
        simp only [Result.andThen_ok, Sem.run_pure, Result.ok.injEq] at h
        obtain ⟨rfl, _⟩ := h
        show ((cs.extract off (off + n)).toList.all plainS) = true
        rw [List.all_eq_true]
        intro x hx
        rw [Array.toList_extract] at hx
        have hx2 : x ∈ cs.toList := List.mem_of_mem_drop (List.mem_of_mem_take (by simpa [List.extract_eq_take_drop] using hx))
        exact List.all_eq_true.1 hc x hx2
theorem quiet_forL {α β : Type} (f : α → β → Sem (ForInStep β)) (hf : ∀ a b, Quiet P (f a b)) : ∀ (l : List α) (b : β), Quiet P (forIn l b f)
  | [], b => by simp only [List.forIn_nil]; exact Quiet.pure _
  | a :: l, b => by
    simp only [List.forIn_cons]
    refine Quiet.bind (hf a b) fun r _ => ?_
    cases r with
    | done b => exact Quiet.pure _
    | yield b => exact quiet_forL f hf l b
theorem quiet_eq : ∀ (d : Nat) (t : TypeId) (x y : Value), plainB x = true → plainB y = true → Quiet P (Op.equalIn d t x y)
  | 0, t, x, y, hx, hy => by unfold Op.equalIn; exact (never_unsupported _).quiet
  | d + 1, t, x, y, hx, hy => by
    have step : ∀ e xs ys o1 o2 (K : Bool → Sem (ForInStep (Option Bool × PUnit))), plainB (.agg xs) = true → plainB (.agg ys) = true → (∀ b, Quiet P (K b)) →
        Quiet P (do let a ← part e xs o1; let b ← part e ys o2; let r ← Op.equalIn d e a b; K r) := by
      intro e xs ys o1 o2 K h1 h2 hK
      refine Quiet.bind (quiet_part _ _ _) fun a ha => Quiet.bind (quiet_part _ _ _) fun b hb => Quiet.bind (quiet_eq d e a b ?_ ?_) fun r _ => hK r
      · obtain ⟨w, w', ha⟩ := ha; exact part_plain h1 ha
      · obtain ⟨w, w', hb⟩ := hb; exact part_plain h2 hb
    unfold Op.equalIn
    refine Quiet.bind (quiet_underlying t) fun u _ => ?_
    cases x <;> first | (simp [plainB, plainS] at hx; done) | skip
    all_goals cases y <;> first | (simp [plainB, plainS] at hy; done) | skip
    all_goals cases u <;> (try simp only) <;> first
      | exact Quiet.pure _
      | exact (never_stuck _).quiet
      | exact (never_unsupported _).quiet
      | skip
    · split
      · exact Quiet.pure _
      · exact (never_stuck _).quiet
    · refine Quiet.bind (quiet_size _) fun n _ => Quiet.bind ?_ fun s _ => ?_
      · rw [Std.Legacy.Range.forIn_eq_forIn_range']
        refine quiet_forL _ (fun i b => step _ _ _ _ _ _ hx hy fun r => ?_) _ _
        split <;> exact Quiet.pure _
      · split <;> exact Quiet.pure _
    · refine Quiet.bind quiet_program fun p _ => ?_
      split
      · exact (never_bind' (never_unsupported _)).quiet
      · refine Quiet.bind ?_ fun s _ => ?_
        · rw [← Array.forIn_toList]
          refine quiet_forL _ (fun f b => ?_) _ _
          split
          · refine step _ _ _ _ _ _ hx hy fun r => ?_
            split <;> exact Quiet.pure _
          · exact Quiet.pure _
        · split <;> exact Quiet.pure _
theorem quiet_int {op : BinOp} {x y : Int} : Quiet P (Op.intCmp op x y) := by
  unfold Op.intCmp
  split <;> first | exact Quiet.pure _ | exact (never_stuck _).quiet
theorem quiet_arith {op : BinOp} {k : IntKind} {x y : Int} : Quiet P (Op.intArith op k x y) := by
  unfold Op.intArith
  split <;> first | exact Quiet.pure _ | exact (never_stuck _).quiet
theorem quiet_div {op : BinOp} {k : IntKind} {x y : Int} : Quiet P (Op.intDiv op k x y) := by
  unfold Op.intDiv
  split
  · exact (never_runtime _).quiet
  · split <;> first | exact Quiet.pure _ | exact (never_stuck _).quiet
theorem quiet_bits {op : BinOp} {k : IntKind} {x y : Int} : Quiet P (Op.intBits op k x y) := by
  unfold Op.intBits
  simp only
  split <;> first | exact Quiet.pure _ | exact (never_stuck _).quiet
theorem quiet_shift {op : BinOp} {k j : IntKind} {x y : Int} : Quiet P (Op.shift op k x j y) := by
  unfold Op.shift
  split
  · exact (never_runtime _).quiet
  · simp only
    split <;> first | exact Quiet.pure _ | exact (never_stuck _).quiet
theorem quiet_string {op : BinOp} {x y : ByteArray} : Quiet P (Op.stringOp op x y) := by
  unfold Op.stringOp
  simp only
  split <;> first
    | exact Quiet.pure _
    | exact (never_stuck _).quiet
    | (split <;> first | exact Quiet.pure _ | exact (never_unsupported _).quiet)
theorem quiet_bin {op : BinOp} {t : TypeId} {x y : Value} (hx : plainB x = true) (hy : plainB y = true) : Quiet P (binOp op t x y) := by
  have hq : Quiet P (Op.equal t x y) := quiet_eq _ t x y hx hy
  cases x <;> first | (simp [plainB, plainS] at hx; done) | skip
  all_goals cases y <;> first | (simp [plainB, plainS] at hy; done) | skip
  all_goals cases op <;> simp only [binOp] <;> first
    | exact (never_stuck _).quiet
    | exact quiet_string
    | exact quiet_shift
    | exact Quiet.bind hq fun _ _ => Quiet.pure _
    | (split <;> first
        | exact (never_stuck _).quiet
        | exact quiet_int
        | exact quiet_arith
        | exact quiet_div
        | exact quiet_bits)
theorem quiet_un {op : UnOp} {x : Value} (hx : plainB x = true) : Quiet P (Op.unary op x) := by
  cases x <;> first | (simp [plainB, plainS] at hx; done) | skip
  all_goals cases op <;> simp only [Op.unary] <;> first
    | exact (never_stuck _).quiet
    | exact Quiet.pure _
    | exact quiet_arith
    | exact quiet_bits
theorem pure_run {m : Sem Value} {v : Value} (h : pureRun P m = some v) (hq : Quiet P m) (w : World) : m.run P w = .ok v w ∧ cleanB v = true := by
  unfold pureRun at h
  split at h
  · rename_i u w1 hu
    cases hc : cleanB u with
    | true => rw [hc] at h; cases h; exact ⟨(hq _ w _ _ hu).2, hc⟩
    | false => rw [hc] at h; cases h
  · cases h
theorem guard_run {op : BinOp} {t : TypeId} {x y : Operand} {a b : Value} (ha : a ≠ .nilIface) (hg : (∀ cs, a ≠ .agg cs) ∨ P.eqGuardType P.depth t = false) (w : World) :
    (eqGuard op t x y a b).run P w = .ok () w := by
  unfold eqGuard
  cases a <;> first | (exact absurd rfl ha) | skip
  case agg cs =>
    have hg := hg.resolve_left (fun h => h cs rfl)
    cases b <;> cases op <;> simp [hg]
  all_goals cases op <;> simp
theorem bin_sound [Den] [Asm] [AsmOK P] {op : BinOp} {t : TypeId} {x y : Operand} {a a' b b' v : Value} {c c' : Nat} {H' : Heap} {L : Lg} (h : binA P op t a b c H = .ok v c' H' L) (ha : VR E a a') (hb : VR E b b') (w : World) :
    c' = c ∧ H' = H ∧ ∃ v', (do eqGuard op t x y a' b'; binOp op t a' b' : Sem Value).run P w = .ok v' w ∧ VR E v v' := by
  unfold binA at h
  cases hp : (plainB a && plainB b) with
  | true =>
    rw [hp] at h
    simp only [cond_true] at h
    simp only [Bool.and_eq_true] at hp
    replace h := bguard h
    obtain ⟨_, hg, h⟩ := h
    obtain ⟨h1, hc, hh, _⟩ := opt_ok.1 h
    have ea := ha.plain hp.1
    have eb := hb.plain hp.2
    subst ea eb hc hh
    obtain ⟨h2, h3⟩ := pure_run h1 (quiet_bin hp.1 hp.2) w
    refine ⟨rfl, rfl, v, ?_, VR.clean h3⟩
    have hguard := guard_run (P := P) (op := op) (t := t) (x := x) (y := y) (a := a') (b := b') (fun e => by rw [e] at hp; simp [plainB, plainS] at hp) (by
      cases hag : isAggV a' with
      | true => right; rw [hag] at hg; simpa using hg
      | false => left; intro cs e; rw [e] at hag; simp [isAggV] at hag) w
    rw [Sem.run_bind, hguard, Result.andThen_ok]; exact h2
  | false =>
    rw [hp] at h
    simp only [cond_false] at h
    cases hsy : (symB a || symB b) with
    | true =>
    rw [hsy] at h
    simp only [cond_true] at h
    obtain ⟨h1, hc, hh, _⟩ := opt_ok.1 h
    obtain ⟨r', k1, k2⟩ := AsmOK.ok (P := P) _ _ h1 E a' b' ha hb x y w
    exact ⟨hc, hh, r', k2, k1⟩
    | false =>
    rw [hsy] at h
    simp only [cond_false] at h
    have key : ∀ r, nilEq P t a b = some r → (Op.equal t a' b').run P w = .ok r w ∧ a' ≠ .nilIface ∧ (∀ cs, a' ≠ .agg cs) ∧
        binOp .eql t a' b' = (do let r ← Op.equal t a' b'; pure (.bool r)) ∧ binOp .neq t a' b' = (do let r ← Op.equal t a' b'; pure (.bool (!r))) := by
      intro r hn
      unfold nilEq at hn
      cases hu : P.underlying t with
      | none => rw [hu] at hn; cases hn
      | some d =>
        rw [hu] at hn
        cases ha <;> (try (cases d <;> simp only [reduceCtorEq] at hn; done)) <;> cases hb <;> (try (cases d <;> simp only [reduceCtorEq] at hn; done)) <;>
          cases d <;> simp only [reduceCtorEq, Option.some.injEq] at hn <;>
          (subst hn; refine ⟨?_, by simp, by simp, rfl, rfl⟩; show (Op.equalIn (9999 + 1) t _ _).run P w = _; unfold Op.equalIn; rw [Sem.run_bind, run_underlying hu, Result.andThen_ok]; rfl)
    cases op <;> simp only at h <;> first | (exact (bad_ok.1 h).elim) | skip
    all_goals
      replace h := bopt h
      obtain ⟨r, _, hr, h⟩ := h
      obtain ⟨hv, hc, hh, _⟩ := pure_ok.1 h
      subst hv hc hh
      obtain ⟨k1, k2, k3, k4, k5⟩ := key r hr
      refine ⟨rfl, rfl, _, ?_, .bool _⟩
      rw [Sem.run_bind, guard_run k2 (.inl k3) w, Result.andThen_ok]
    · rw [k4, Sem.run_bind, k1]; rfl
    · rw [k5, Sem.run_bind, k1]; rfl
theorem copy_sound [Den] {ats : Array TypeId} {ty : TypeId} {args args' : List Value} {v : Value} {c c' : Nat} {H' : Heap} {L : Lg} (h : copyA P ats.toList args c H = .ok v c' H' L) (hr : HR P w0 F E H w) (ha : LR E args args') :
    ∃ v' w', (Builtin.copy_ ats ty args'.toArray).run P w = .ok v' w' ∧ HR P w0 F E H' w' ∧ VR E v v' := by
  generalize hal : ats.toList = al at h
  unfold copyA at h
  split at h
  · rename_i t ts base dLen dCap x
    obtain ⟨d', r1, rfl, hd, ha⟩ := ha.cons_inv
    obtain ⟨x', r2, rfl, hx, ha⟩ := ha.cons_inv
    have := ha.nil_inv
    subst this
    have hats : ats[0]? = some t := by rw [← Array.getElem?_toList, hal]; rfl
    replace h := bopt h
    obtain ⟨e, _, he, h⟩ := h
    replace h := bopt h
    obtain ⟨size, _, hsz, h⟩ := h
    replace h := bopt h
    obtain ⟨sn, _, hn, h⟩ := h
    replace h := bind_ok.1 h
    obtain ⟨cells, c1, h1, l1, l2, hc0, h, _⟩ := h
    have hu := elem_under he
    have hlen := run_len (P := P) hn hx w
    obtain ⟨q1, q2, q3, cells', q4, q5⟩ := src_sound hc0 hr hx hn (Nat.min_le_left _ _)
    subst q1 q2
    have hcells := q5 w rfl
    have hs1 := run_size hsz w
    have run : ∀ {b' : Option Addr} {cp : Nat} {w' : World}, (∀ a, b' = some a → (storeCells a cells').run P w = .ok () w') → (b' = none → w' = w) →
        (Builtin.copy_ ats ty #[.slice b' dLen cp, x']).run P w = .ok (goInt (Nat.min sn dLen)) w' := by
      intro b' cp w' k1 k2
      unfold Builtin.copy_
      simp only [hats, List.getElem?_toArray, List.getElem?_cons_zero, List.getElem?_cons_succ]
      rw [Sem.run_bind, run_underlying hu, Result.andThen_ok]
      simp only []
      rw [Sem.run_bind, hlen, Result.andThen_ok, Sem.run_bind, hs1, Result.andThen_ok, Sem.run_bind, hcells, Result.andThen_ok]
      cases b' with
      | none => rw [k2 rfl]; rfl
      | some a => simp only []; rw [Sem.run_bind, k1 a rfl]; rfl
    cases hd with
    | nilS =>
      obtain ⟨p1, p2, p3, _⟩ := pure_ok.1 h
      subst p1 p2 p3
      exact ⟨_, w, run (fun a e => by cases e) (fun _ => rfl), hr, .int _ _⟩
    | sl h1 h2 h3 =>
      rename_i i o e0 a'
      simp only [wrB_eq] at h
      replace h := bind_ok.1 h
      obtain ⟨u, c2, g2, l3, l4, hw0, h, _⟩ := h
      obtain ⟨p1, p2, p3, _⟩ := pure_ok.1 h
      subst p1 p2 p3
      obtain ⟨_, w', k1, k2, _⟩ := wrN_sound (k := 0) hw0 hr q4 h1
      refine ⟨_, w', run (fun a e => ?_) (fun e => by cases e), k2, .int _ _⟩
      cases e
      rcases h3 with h3 | h3
      · rw [h3]; exact k1
      · have hm : Nat.min sn dLen = 0 := by
          have : dLen = 0 := by omega
          subst this; exact Nat.min_zero _
        rw [hm, Nat.zero_mul] at q3
        have hc' : cells' = [] := List.eq_nil_of_length_eq_zero (by rw [← q4.len]; exact q3)
        subst hc'
        have hw'' : w' = w := by
          have : (Result.ok () w : Result Unit) = .ok () w' := k1
          cases this; rfl
        rw [hw'']; rfl
  · exact (bad_ok.1 h).elim
theorem arrayAt_sound [Den] {t : TypeId} {x x' v : Value} (h : arrayAtA P t x = some v) (hx : VR E x x') (w : World) : ∃ v', (Instr.arrayAt t x').run P w = .ok v' w ∧ VR E v v' := by
  unfold arrayAtA at h
  split at h
  · rename_i n e a len cp hu
    cases hb : (Nat.blt 0 n && Nat.ble n len) with
    | false => rw [hb] at h; simp at h
    | true =>
      rw [hb] at h
      simp only [cond_true, Option.some.injEq] at h
      simp only [Bool.and_eq_true] at hb
      have h1 := blt_iff.1 hb.1
      have h2 := Nat.le_of_ble_eq_true hb.2
      subst h
      cases hx with
      | sl g1 g2 g3 =>
        rcases g3 with g3 | g3
        · subst g3
          refine ⟨_, ?_, .ptr g1⟩
          unfold Instr.arrayAt
          rw [Sem.run_bind, run_underlying hu, Result.andThen_ok]
          simp only []
          rw [if_neg (by omega)]
          rfl
        · omega
  · cases h
theorem minmax_sound [Den] {mx : Bool} {ats : Array TypeId} {ty : TypeId} {args args' : List Value} {v : Value} (h : minmaxA mx args = some v) (ha : LR E args args') (w : World) :
    (if mx then Builtin.max_ ats ty args'.toArray else Builtin.min_ ats ty args'.toArray).run P w = .ok v w ∧ VR E v v := by
  unfold minmaxA at h
  split at h
  · rename_i k x k2 y
    obtain ⟨x', r1, rfl, hx, ha⟩ := ha.cons_inv
    obtain ⟨y', r2, rfl, hy, ha⟩ := ha.cons_inv
    have := ha.nil_inv
    subst this
    cases hx
    cases hy
    simp only [Option.some.injEq] at h
    subst h
    cases mx
    · exact ⟨rfl, .int _ _⟩
    · exact ⟨rfl, .int _ _⟩
  · cases h
theorem repL_get (z : List Value) (hz : 0 < z.length) : ∀ (c k : Nat), (repL z c)[k]? = if k < c * z.length then z[k % z.length]? else none
  | 0, k => by simp [repL]
  | c + 1, k => by
    rw [repL, Nat.add_mul, Nat.one_mul]
    by_cases h : k < z.length
    · rw [List.getElem?_append_left h, if_pos (by omega), Nat.mod_eq_of_lt h]
    · rw [List.getElem?_append_right (by omega), repL_get z hz c]
      by_cases h2 : k < c * z.length + z.length
      · rw [if_pos (by omega), if_pos h2, ← Nat.mod_eq_sub_mod (show z.length ≤ k from by omega)]
      · rw [if_neg (by omega), if_neg h2]
theorem repL_len (z : List Value) : ∀ c, (repL z c).length = c * z.length
  | 0 => by simp [repL]
  | c + 1 => by rw [repL, List.length_append, repL_len z c, Nat.add_mul, Nat.one_mul, Nat.add_comm]
theorem makeSlice_sound [Den] {t : TypeId} {lv lv' cv cv' v : Value} {c c' : Nat} {H' : Heap} {L : Lg} (h : makeSliceA P t lv cv c H = .ok v c' H' L) (hr : HR P w0 F E H w) (hl : VR E lv lv') (hc : VR E cv cv') :
    ∃ v' w' E', (Instr.makeSlice t lv' cv').run P w = .ok v' w' ∧ E.le E' ∧ HR P w0 F E' H' w' ∧ VR E' v v' := by
  unfold makeSliceA at h
  split at h
  · rename_i k1 l k2 m
    cases hl
    cases hc
    replace h := bopt h
    obtain ⟨e, _, he, h⟩ := h
    replace h := bopt h
    obtain ⟨size, _, hsz, h⟩ := h
    replace h := bopt h
    obtain ⟨bytes, _, hby, h⟩ := h
    replace h := bguard h
    obtain ⟨_, hg, h⟩ := h
    replace h := bopt h
    obtain ⟨z, _, hz, h⟩ := h
    replace h := bguard h
    obtain ⟨_, hg2, h⟩ := h
    simp only [Bool.and_eq_true] at hg hg2
    obtain ⟨⟨⟨⟨⟨g1, g2⟩, g3⟩, g4⟩, g5⟩, g6⟩ := hg
    have g1 := Nat.le_of_ble_eq_true g1
    have g2 := blt_iff.1 g2
    have g3 := blt_iff.1 g3
    have g4 := Nat.le_of_ble_eq_true g4
    have g6 := blt_iff.1 g6
    have hzs := Nat.eq_of_beq_eq_true hg2.1
    have hu := elem_under he
    obtain ⟨ib, hib, hibb⟩ := bytes_info hby
    replace h := bind_ok.1 h
    obtain ⟨p, c1, h1, l1, l2, hp0, h, _⟩ := h
    unfold newRowA at hp0
    replace hp0 := bguard hp0
    obtain ⟨_, ho, hp0⟩ := hp0
    replace hp0 := bind_ok.1 hp0
    obtain ⟨j, c2, h2, l3, l4, hn0, hp0, _⟩ := hp0
    obtain ⟨p1, p2, p3, _⟩ := pure_ok.1 hp0
    subst p1 p2 p3
    simp only at h
    obtain ⟨p1, p2, p3, _⟩ := pure_ok.1 h
    subst p1 p2 p3
    obtain ⟨j1, j2, hj, j3, _⟩ := newA_inv hn0
    subst j1 j2 j3
    have hzl : z.cells.toList.length = size := by simpa using hzs
    have hlr := repLR (VR.clean (E := E) hg2.2).cells m
    obtain ⟨q1, q2⟩ := hr.newRow (T := e) (more := []) (cap := m) hj hlr ho (fun n hn => by
      rw [hsz] at hn; cases hn
      rw [List.append_nil, repL_len, hzl]; exact Nat.le_refl _)
    rw [List.append_nil] at q2
    have hE : Env.upd E j ⟨w.heap.size, 0, m⟩ j = some ⟨w.heap.size, 0, m⟩ := by simp [Env.upd]
    have hv := VR.sl (o := 0) (n := l) (c := m) (a' := ⟨w.heap.size, 0, none⟩) hE (by unfold capOf; rw [if_pos g6]; exact g1) (.inl rfl)
    rw [show capOf (⟨w.heap.size, 0, m⟩ : EI) m = m from by unfold capOf; rw [if_pos g6]] at hv
    refine ⟨_, _, _, ?_, q1, q2, hv⟩
    unfold HALF at g6
    have hw : ∀ n : Nat, n < 2305843009213693952 → IntKind.i64.wrap (Int.ofNat n) = (n : Int) := fun n hn => by
      have h1 : (Int.ofNat n) % (2 ^ 64 : Int) = (n : Int) := by
        have : (2 ^ 64 : Int) = 18446744073709551616 := by decide
        rw [this]
        exact Int.emod_eq_of_lt (by simp) (by simp; omega)
      have h2 : (2 ^ (64 - 1) : Int) = 9223372036854775808 := by decide
      show (let m := (Int.ofNat n) % (2 ^ 64 : Int); if true && decide (m ≥ (2 ^ (64 - 1) : Int)) then m - (2 ^ 64 : Int) else m) = (n : Int)
      simp only [h1, h2, Bool.true_and, decide_eq_true_eq]
      rw [if_neg (by omega)]
    have hb48 : ((2 : Int) ^ 48) = 281474976710656 := by decide
    have htl : ∀ n : Nat, n * bytes ≤ 16777216 → (((n : Int) < 0 : Bool) || ((bytes : Int) * (n : Int) > 2 ^ 48 : Bool)) = false := fun n hn => by
      have : ((bytes : Int) * (n : Int)) = ((n * bytes : Nat) : Int) := by rw [Nat.mul_comm]; simp
      rw [this, hb48]
      simp only [Bool.or_eq_false_iff, decide_eq_false_iff_not]
      omega
    have hcells : (Array.range (m * size)).map (fun x => z.cells[x % z.cells.size]!) = (repL z.cells.toList m).toArray := by
      apply Array.toList_inj.1
      apply List.ext_getElem?
      intro k
      rw [repL_get _ (by omega), hzl]
      simp only [Array.toList_map, Array.toList_range, List.getElem?_map]
      by_cases hk : k < m * size
      · rw [List.getElem?_range hk, if_pos hk]
        have hlt : k % size < z.cells.size := by rw [hzs]; exact Nat.mod_lt _ g3
        simp only [Option.map_some, hzs]
        rw [Array.getElem?_toList, Array.getElem?_eq_getElem hlt, getElem!_pos z.cells (k % size) hlt]
      · rw [if_neg hk, List.getElem?_eq_none (by simp; omega)]
        rfl
    have hm0 : ¬ (m * size = 0) := by have := Nat.mul_pos g2 g3; omega
    unfold Instr.makeSlice
    rw [Sem.run_bind, run_underlying hu, Result.andThen_ok]
    simp only []
    rw [Sem.run_bind, show (asInt (.int k1 (Int.ofNat l))).run P w = .ok (Int.ofNat l) w from rfl, Result.andThen_ok, Sem.run_bind, show (asInt (.int k2 (Int.ofNat m))).run P w = .ok (Int.ofNat m) w from rfl, Result.andThen_ok,
      Sem.run_bind, run_info hib, Result.andThen_ok]
    have n1 := htl m g4
    have n2 : decide ((l : Int) < 0) = false := by simp
    have n3 : decide ((l : Int) > (m : Int)) = false := by simp; omega
    simp only [hw l (by omega), hw m g6, hibb, n1, n2, n3, Bool.or_self, Bool.false_eq_true, if_false]
    simp only [Int.toNat_natCast, Sem.run_bind, run_askRoom, run_size hsz, Result.andThen_ok, if_neg hm0, run_zero hz, Sem.run_pure, run_newRow, hcells]
  · exact (bad_ok.1 h).elim
end
end Go.Sx
namespace Go.Sx
section
variable {P : Program} {w0 : World} {F : Nat → Prop} {E : Env} {H : Heap} {w : World} {R : Option Nat}
inductive DsR (E : Env) : List Nat → List Deferred → Prop
  | nil : DsR E [] []
  | cons {i : Nat} {e : EI} {is : List Nat} {ds : List Deferred} (h : E i = some e) (t : DsR E is ds) : DsR E (i :: is) ({ target := .collected e.blk, args := #[] } :: ds)
theorem DsR.mono {E' : Env} (hle : E.le E') {is : List Nat} {ds : List Deferred} (h : DsR E is ds) : DsR E' is ds := by
  induction h with
  | nil => exact .nil
  | cons h _ ih => exact .cons (hle _ _ h) ih
inductive RoR (E : Env) : Option Nat → Option Nat → Prop
  | none : RoR E none none
  | some {l : Nat} {e : EI} (h : E l = some e) : RoR E (some l) (some e.blk)
theorem RoR.mono {E' : Env} (hle : E.le E') {x y : Option Nat} (h : RoR E x y) : RoR E' x y := by
  cases h with
  | none => exact .none
  | some h => exact .some (hle _ _ h)
structure FR [Den] (E : Env) (R : Option Nat) (f : Fr) (a : Act) : Prop where
  defers : DsR E f.ds a.defers
  ro : RoR E f.ro R
  tr : TR E f a.tmps
theorem FR.size [Den] {f : Fr} {a : Act} (h : FR E R f a) : a.tmps.size = f.n := h.tr.size
theorem VR.undef [Den] (E : Env) : VR E undef undef := .tup_of (LR.nil E)
theorem FR.get [Den] {f : Fr} {a : Act} (h : FR E R f a) {k : Nat} {v : Value} (hk : f.get k = some v) : VR E v (a.tmps.getD k Go.undef) := (h.tr.val k v hk).2
theorem FR.mono [Den] {E' : Env} {f : Fr} {a : Act} (h : FR E R f a) (hle : E.le E') : FR E' R f a := ⟨h.defers.mono hle, h.ro.mono hle, h.tr.mono hle⟩
theorem TR.put [Den] {f : Fr} {tmps : Array Value} {v v' : Value} (h : TR E f tmps) (hv : VR E v v') (d : Tmp) : TR E (f.put (some d) v) (tmps.setIfInBounds d v') := by
  obtain ⟨t, n, ro, ds⟩ := f
  obtain ⟨h1, h2⟩ := h
  simp only at h1 h2
  unfold Fr.put
  simp only
  cases hb : Nat.blt d n with
  | false =>
    simp only [cond_false]
    have hd : ¬ d < tmps.size := fun hlt => by rw [h1] at hlt; rw [blt_iff.2 hlt] at hb; cases hb
    have : tmps.setIfInBounds d v' = tmps := by simp [Array.setIfInBounds, hd]
    rw [this]; exact ⟨h1, h2⟩
  | true =>
    simp only [cond_true]
    have hd := blt_iff.1 hb
    refine ⟨by simpa using h1, fun k u hk => ?_⟩
    simp only [Tr.get_set] at hk
    by_cases hkd : k = d
    · subst hkd
      rw [if_pos rfl] at hk
      cases hk
      refine ⟨hd, ?_⟩
      have e2 : (tmps.setIfInBounds k v').getD k Go.undef = v' := by
        rw [Array.getD_eq_getD_getElem?]; simp [h1, hd]
      rw [e2]; exact hv
    · rw [if_neg hkd] at hk
      have e2 : (tmps.setIfInBounds d v').getD k Go.undef = tmps.getD k Go.undef := by
        rw [Array.getD_eq_getD_getElem?, Array.getD_eq_getD_getElem?, Array.getElem?_setIfInBounds_ne (Ne.symm hkd)]
      rw [e2]; exact h2 k u hk
theorem put_ro (f : Fr) (dst : Option Tmp) (v : Value) : (f.put dst v).ro = f.ro ∧ (f.put dst v).ds = f.ds := by
  obtain ⟨t, n, ro, ds⟩ := f
  cases dst with
  | none => exact ⟨rfl, rfl⟩
  | some d =>
    unfold Fr.put
    simp only
    cases Nat.blt d n <;> exact ⟨rfl, rfl⟩
theorem FR.put [Den] {f : Fr} {a : Act} {v v' : Value} (h : FR E R f a) (hv : VR E v v') (dst : Option Tmp) : FR E R (f.put dst v) (a.put dst v') := by
  obtain ⟨p1, p2⟩ := put_ro f dst v
  cases dst with
  | none => exact h
  | some d => exact ⟨by rw [p2]; exact h.defers, by rw [p1]; exact h.ro, h.tr.put hv d⟩
theorem FR.puts [Den] : ∀ {ps : List Tmp} {args args' : List Value} {f : Fr} {tmps : Array Value} {ds : List Deferred}, FR E R f { tmps := tmps, defers := ds } → LR E args args' →
    FR E R (f.puts ps args) { tmps := (ps.zip args').foldl (fun t (p : Tmp × Value) => t.setIfInBounds p.1 p.2) tmps, defers := ds }
  | [], args, args', f, tmps, ds, h, _ => by simpa [Fr.puts] using h
  | p :: ps, [], args', f, tmps, ds, h, hl => by rw [hl.nil_inv]; simpa [Fr.puts] using h
  | p :: ps, v :: vs, args', f, tmps, ds, h, hl => by
    obtain ⟨v', vs', rfl, hv, hl'⟩ := hl.cons_inv
    simp only [Fr.puts, List.zip_cons_cons, List.foldl_cons]
    exact FR.puts (h.put hv (some p)) hl'
theorem eval_sound [Den] {f : Fr} {a : Act} (hf : FR E R f a) {x : Operand} {v : Value} {c : Nat} {h : Heap} {c' : Nat} {h' : Heap} {L : Lg} (hh : f.eval x c h = .ok v c' h' L) : VR E v (a.eval x) := by
  cases x with
  | tmp t => obtain ⟨hv, _⟩ := opt_ok.1 hh; exact hf.get hv
  | const u =>
    simp only [Fr.eval] at hh
    cases hc : cleanB u <;> rw [hc] at hh <;> simp only [cond_true, cond_false] at hh
    · exact (bad_ok.1 hh).elim
    · obtain ⟨rfl, _⟩ := pure_ok.1 hh; exact VR.clean hc
  | global g => simp only [Fr.eval] at hh; exact (bad_ok.1 hh).elim
  | func g =>
    obtain ⟨rfl, _⟩ := pure_ok.1 hh
    exact VR.cleanS rfl
theorem evalL_sound [Den] {f : Fr} {a : Act} (hf : FR E R f a) : ∀ {xs : List Operand} {vs : List Value} {c : Nat} {h : Heap} {c' : Nat} {h' : Heap} {L : Lg}, evalL f xs c h = .ok vs c' h' L → c' = c ∧ h' = h ∧ LR E vs (xs.map a.eval)
  | [], vs, c, h, c', h', L, hh => by
    obtain ⟨rfl, rfl, rfl, _⟩ := pure_ok.1 hh
    exact ⟨rfl, rfl, LR.nil E⟩
  | x :: xs, vs, c, h, c', h', L, hh => by
    replace hh := beval hh
    obtain ⟨v, _, hv, hh⟩ := hh
    replace hh := bind_ok.1 hh
    obtain ⟨us, c1, h1, _, _, hu, hh, _⟩ := hh
    obtain ⟨q1, q2, q3⟩ := evalL_sound hf hu
    obtain ⟨q4, q5, q6, _⟩ := pure_ok.1 hh
    subst q4 q5 q6 q1 q2
    exact ⟨rfl, rfl, LR.cons (eval_sound hf hv) q3⟩
theorem pairsL_sound [Den] {f : Fr} {a : Act} (hf : FR E R f a) : ∀ {xs : List (Nat × Operand)} {vs : List (Nat × Value)} {c : Nat} {h : Heap} {c' : Nat} {h' : Heap} {L : Lg}, pairsL f xs c h = .ok vs c' h' L →
    c' = c ∧ h' = h ∧ vs.map (·.1) = (xs.map fun (p : Nat × Operand) => (p.1, a.eval p.2)).map (·.1) ∧ LR E (vs.map (·.2)) ((xs.map fun (p : Nat × Operand) => (p.1, a.eval p.2)).map (·.2))
  | [], vs, c, h, c', h', L, hh => by
    obtain ⟨rfl, rfl, rfl, _⟩ := pure_ok.1 hh
    exact ⟨rfl, rfl, rfl, LR.nil E⟩
  | (i, x) :: xs, vs, c, h, c', h', L, hh => by
    replace hh := beval hh
    obtain ⟨v, _, hv, hh⟩ := hh
    replace hh := bind_ok.1 hh
    obtain ⟨us, c1, h1, _, _, hu, hh, _⟩ := hh
    obtain ⟨q1, q2, q3, q7⟩ := pairsL_sound hf hu
    obtain ⟨q4, q5, q6, _⟩ := pure_ok.1 hh
    subst q4 q5 q6 q1 q2
    exact ⟨rfl, rfl, by simpa using q3, LR.cons (eval_sound hf hv) q7⟩
theorem evalO_sound [Den] {f : Fr} {a : Act} (hf : FR E R f a) {x : Option Operand} {v : Option Value} {c : Nat} {h : Heap} {c' : Nat} {h' : Heap} {L : Lg} (hh : evalO f x c h = .ok v c' h' L) : c' = c ∧ h' = h ∧ OR E v (x.map a.eval) := by
  cases x with
  | none => obtain ⟨rfl, rfl, rfl, _⟩ := pure_ok.1 hh; exact ⟨rfl, rfl, .none⟩
  | some x =>
    simp only [evalO] at hh
    replace hh := beval hh
    obtain ⟨u, _, hu, hh⟩ := hh
    obtain ⟨rfl, rfl, rfl, _⟩ := pure_ok.1 hh
    exact ⟨rfl, rfl, .some (eval_sound hf hu)⟩
def Wd (Fe : Fence) : Prop := (∀ f, Fe.fn f) ∧ Fe.depth = none
def Callable (P : Program) (g : FuncId) : Prop := ∃ fn c, P.funcs[g]? = some fn ∧ (fn.name == "runtime.NumGoroutine") = false ∧ fn.body = some c
def CallSnd [Den] (P : Program) (w0 : World) (F : Nat → Prop) (r : Rec) : Prop := ∀ g args c H v c' H' L, r.call g args c H = .ok v c' H' L → Callable P g ∧
  ∀ E w args', HR P w0 F E H w → LR E args args' → ∀ Fe n, Wd Fe → CallsIn Fe n P g args'.toArray w (fun e w' => ∃ v' E', e = .returned v' ∧ E.le E' ∧ HR P w0 F E' H' w' ∧ VR E' v v')
def loopWp (Fe : Fence) (n : Nat) (P : Program) (c : Code) (Q : Exit → Act → World → Prop) (a : Act) (w : World) : Prop :=
  ∀ (b : Frame) (k : List Item) (cs : List Frame), b.roundOf = Fe.round → Fe.fn b.fn → Fe.room (cs.length + 1 + n) →
    ∃ e a' w', Q e a' w' ∧ ArrivesIn (Machine.fenced P Fe) P (lone (b.atR a (.code c :: .inLoop c :: k)) cs w) b k cs e a' w'
def ExecSnd [Den] (P : Program) (w0 : World) (F : Nat → Prop) (r : Rec) : Prop := ∀ (code : Code) (Fe : Fence) (n : Nat) (Q : Exit → Act → World → Prop) (E : Env) (H : Heap) (w : World) (f f' : Fr) (x : Exit) (a : Act) (c c' : Nat) (H' : Heap) (L : Lg),
  Wd Fe → r.exec code f c H = .ok (x, f') c' H' L → FR E Fe.round f a → HR P w0 F E H w →
  (∀ E' a' w', E.le E' → HR P w0 F E' H' w' → FR E' Fe.round f' a' → Q x a' w') → code.wpIn Fe n P Q a w ∧ ∀ b, code = .loop b → loopWp Fe n P b Q a w
theorem wp_val {Fe : Fence} {n : Nat} {o : Oper} {a : Act} {next : Act → World → Prop} {Q : Exit → Act → World → Prop} {v' : Value} {w' : World} (hW : Wd Fe) (hd : ∀ c, o.op ≠ .defer c)
    (h : (execOp a.eval o).run P w = .ok (.value v') w') (hk : next (a.put o.dst v') w') : o.wpIn Fe n P a w next Q := by
  refine ⟨fun f _ => hW.1 f, ?_⟩
  rw [Oper.semAt_eq _ _ _ hd, h]; exact hk
theorem wp_skip' {Fe : Fence} {n : Nat} {o : Oper} {a : Act} {next : Act → World → Prop} {Q : Exit → Act → World → Prop} {w' : World} (hW : Wd Fe) (hd : ∀ c, o.op ≠ .defer c)
    (h : (execOp a.eval o).run P w = .ok .skip w') (hk : next (a.put o.dst undef) w') : o.wpIn Fe n P a w next Q := by
  refine ⟨fun f _ => hW.1 f, ?_⟩
  rw [Oper.semAt_eq _ _ _ hd, h]; exact hk
theorem map_pairs (ps : Array (Nat × Operand)) (ρ : Operand → Value) : (ps.map fun (p : Nat × Operand) => (p.1, ρ p.2)).toList = ps.toList.map fun (p : Nat × Operand) => (p.1, ρ p.2) := by simp
theorem lpGet_inv {i c c' : Nat} {x : LpA} {H' : Heap} {L : Lg} (h : lpGet i c H = .ok x c' H' L) : c' = c ∧ H' = H ∧ H.get i = some (.loop x.st x.pend x.f x.ps x.assign x.body x.dfr) := by
  unfold lpGet at h
  split at h
  · rename_i hi; cases h; exact ⟨rfl, rfl, hi⟩
  · cases h
theorem lpSet_sound [Den] {i c c' : Nat} {st : LoopState} {pe : Option Code} {u : Unit} {H' : Heap} {L : Lg} (h : lpSet i st pe c H = .ok u c' H' L) (hr : HR P w0 F E H w) {e : EI} (he : E i = some e) :
    ∃ l, w.heap[e.blk]? = some (.loop l) ∧ HR P w0 F E H' (w.putObj e.blk (.loop { l with state := st, pending := pe })) := by
  unfold lpSet at h
  split at h
  · rename_i s0 p0 f ps a b d hi
    cases h
    obtain ⟨e', l, h1, h2, h3, h4, h5, h6, h7, h8, h9⟩ := hr.obj i _ hi
    rw [he] at h1; cases h1
    have hlt : e.blk < w.heap.size := hr.blk_lt hi rfl he
    refine ⟨l, h2, hr.turn hi rfl rfl he rfl rfl rfl World.putObj_size (fun b hb => World.putObj_heap_other hb) ⟨e, _, he, World.putObj_heap_same hlt, rfl, rfl, h5, h6, h7, h8, h9⟩⟩
  · cases h
theorem jump_inv {e : Exit} {j : Option Code} (h : jumpOf e = some j) : (e = .normal ∧ j = none) ∨ (e = .ret ∧ j = some .ret) ∨ (∃ id, e = .exit id ∧ j = some (.exit id)) ∨ (∃ l, e = .goto l ∧ j = some (.goto l)) := by
  cases e <;> simp only [jumpOf, Option.some.injEq, reduceCtorEq] at h <;> subst h
  · exact .inl ⟨rfl, rfl⟩
  · exact .inr (.inr (.inl ⟨_, rfl, rfl⟩))
  · exact .inr (.inr (.inr ⟨_, rfl, rfl⟩))
  · exact .inr (.inl ⟨rfl, rfl⟩)
theorem yield_sound [Den] {Fe : Fence} {n : Nat} {r : Rec} (hW : Wd Fe) (he : ExecSnd P w0 F r) {l : Nat} {e : EI} {args args' : List Value} {v : Value} {c c' : Nat} {H' : Heap} {L : Lg} (h : yieldA r l args c H = .ok v c' H' L)
    (hr : HR P w0 F E H w) (hE : E l = some e) (hargs : LR E args args') :
    ∃ lr : Loop, w.heap[e.blk]? = some (.loop lr) ∧ args'.toArray.size = lr.params.size ∧
      ∀ Rr : Ending → World → Prop, (∀ E' v' w', E.le E' → HR P w0 F E' H' w' → VR E' v v' → Rr (.returned v') w') →
        RoundIn Fe n P e.blk lr.fn ((lr.params.zip args'.toArray).foldl (fun tmps (t, a) => tmps.setIfInBounds t a) lr.tmps) lr.assign lr.body w Rr := by
  unfold yieldA at h
  replace h := bind_ok.1 h
  obtain ⟨x, c1, h1, _, _, hx, h, _⟩ := h
  obtain ⟨q1, q2, hi⟩ := lpGet_inv hx
  subst q1 q2
  replace h := bguard h
  obtain ⟨_, hg, h⟩ := h
  have hsz := Nat.eq_of_beq_eq_true hg
  obtain ⟨e', lr, k1, k2, k3, k4, k5, k6, k7, k8, ed, k9, k10⟩ := hr.obj l _ hi
  rw [hE] at k1; cases k1
  refine ⟨lr, k2, ?_, fun Rr hk => ?_⟩
  · have := hargs.len
    simp only [List.size_toArray]
    rw [← this, hsz, ← k5, Array.length_toList]
  replace h := bind_ok.1 h
  obtain ⟨⟨ex, f1⟩, c2, h2, _, _, hasg, h, _⟩ := h
  have hW2 : Wd (Fe.inRound e.blk) := hW
  refine roundIn_of_wpIn (hW.1 _) ?_
  have hf0 : FR E (Fe.inRound e.blk).round ⟨x.f.t, x.f.n, some l, []⟩ { tmps := lr.tmps, defers := [] } :=
    ⟨.nil, .some hE, ⟨k8.size, k8.val⟩⟩
  have hf1 := FR.puts (ps := x.ps) hf0 hargs
  have hfold : (x.ps.zip args').foldl (fun t (p : Tmp × Value) => t.setIfInBounds p.1 p.2) lr.tmps = (lr.params.zip args'.toArray).foldl (fun tmps (t, a) => tmps.setIfInBounds t a) lr.tmps := by
    rw [← Array.foldl_toList, Array.toList_zip, k5]
  rw [hfold] at hf1
  rw [k6, k7]
  refine (he x.assign (Fe.inRound e.blk) n _ E _ w _ f1 ex _ _ _ _ _ hW2 hasg hf1 hr fun E1 a1 w1 hle hr1 hff1 => ?_).1
  cases ex <;> simp only at h <;> first | (exact (bad_ok.1 h).elim) | skip
  replace h := bind_ok.1 h
  obtain ⟨y, c3, h3, _, _, hy, h, _⟩ := h
  obtain ⟨q1, q2, hi1⟩ := lpGet_inv hy
  subst q1 q2
  have hE1 := hle _ _ hE
  cases hst : y.st <;> rw [hst] at h <;> simp only at h <;> first | (exact (bad_ok.1 h).elim) | skip
  replace h := bind_ok.1 h
  obtain ⟨u, c4, h4, _, _, hset, h, _⟩ := h
  replace h := bind_ok.1 h
  obtain ⟨⟨e2, f2⟩, c5, h5, _, _, hbody, h, _⟩ := h
  obtain ⟨l1, m1, m2⟩ := lpSet_sound hset hr1 hE1
  have hst1 : l1.state = .ready := by
    obtain ⟨e'', l', g1, g2, g3, _⟩ := hr1.obj l _ hi1
    rw [hE1] at g1; cases g1
    rw [m1] at g2; cases g2
    rw [g3, hst]
  have hpe1 : l1.pending = y.pend := by
    obtain ⟨e'', l', g1, g2, g3, g4, _⟩ := hr1.obj l _ hi1
    rw [hE1] at g1; cases g1
    rw [m1] at g2; cases g2
    rw [g4]
  rw [← hpe1] at m2
  refine ⟨_, run_beginRound m1 hst1, ?_⟩
  refine (he x.body (Fe.inRound e.blk) n _ E1 _ _ _ f2 e2 _ _ _ _ _ hW2 hbody hff1 m2 fun E2 a2 w2 hle2 hr2 hff2 => ?_).1
  have hE2 := hle2 _ _ hE1
  have hle3 := Env.le_trans hle hle2
  simp only at h
  cases hj : jumpOf e2 with
  | none => rw [hj] at h; exact (bad_ok.1 h).elim
  | some j =>
    rw [hj] at h
    have fin : ∀ {st : LoopState} {b : Bool} {c6 : Nat} {H6 : Heap} {L6 : Lg}, M.bind (lpSet l st j) (fun _ => M.pure (.bool b)) c5 h5 = .ok v c6 H6 L6 → H6 = H' → st = (if j.isNone then .ready else .done) → b = j.isNone →
        ∃ v' w', (Instr.endRound e.blk j).run P w2 = .ok v' w' ∧ Rr (.returned v') w' := by
      intro st b c6 H6 L6 h hH hs hb
      replace h := bind_ok.1 h
      obtain ⟨u, c7, h7, _, _, hset2, h, _⟩ := h
      obtain ⟨p1, p2, p3, _⟩ := pure_ok.1 h
      subst p1 p2 p3 hH
      obtain ⟨l2, m3, m4⟩ := lpSet_sound hset2 hr2 hE2
      refine ⟨_, _, run_endRound j m3, ?_⟩
      rw [← hs, ← hb]
      exact hk E2 _ _ hle3 m4 (.bool _)
    rcases jump_inv hj with ⟨rfl, rfl⟩ | ⟨rfl, rfl⟩ | ⟨id, rfl, rfl⟩ | ⟨t, rfl, rfl⟩
    · exact fin h rfl rfl rfl
    · exact fin h rfl rfl rfl
    · exact fin h rfl rfl rfl
    · exact fin h rfl rfl rfl
theorem callV_sound [Den] {Fe : Fence} {n : Nat} {r : Rec} {o : Oper} {a : Act} {next : Act → World → Prop} {Q : Exit → Act → World → Prop} (hW : Wd Fe) (hcs : CallSnd P w0 F r) (he : ExecSnd P w0 F r) {cl : Call} {g : Operand} (ho : o.op = .call cl) (hcl : cl.callee = .value g)
    {fv v : Value} {args : List Value} {c c' : Nat} {H' : Heap} {L : Lg} (h : callV r fv args c H = .ok v c' H' L) (hr : HR P w0 F E H w) (hfv : VR E fv (a.eval g)) (hargs : LR E args (cl.args.toList.map a.eval))
    (hk : ∀ E' v' w', E.le E' → HR P w0 F E' H' w' → VR E' v v' → next (a.put o.dst v') w') : o.wpIn Fe n P a w next Q := by
  unfold callV at h
  split at h
  · rename_i gid first captured
    generalize hga : a.eval g = gv at hfv
    cases hfv with
    | fn hf1 h1 hc1 h2 =>
      rename_i f' c'
      obtain ⟨⟨fn, body, hfn, hname, hbody⟩, hcalls⟩ := hcs _ _ _ _ _ _ _ _ h
      have hrun : (execOp a.eval o).run P w = .ok (.enter gid (f' ++ (cl.args.map a.eval) ++ c')) w := by
        simp only [execOp, ho, resolve, hcl, hga, Deferred.ofValue, Sem.run_bind, Sem.run_pure, Result.andThen_ok, invoke, callFunc, run_program, hfn, hname, hbody]
        simp
      refine ⟨fun f _ => hW.1 f, ?_⟩
      rw [Oper.semAt_eq _ _ _ (fun c e => by rw [ho] at e; cases e), hrun]
      refine ⟨(fun hd => by rw [hW.2] at hd; cases hd), ?_⟩
      have hlr : LR E (first.toList ++ args ++ captured.toList) (f' ++ (cl.args.map a.eval) ++ c').toList := by
        rw [Array.toList_append, Array.toList_append, Array.toList_map]
        exact LR.append (LR.append ⟨hf1, h1⟩ hargs) ⟨hc1, h2⟩
      have hc := hcalls E w _ hr hlr Fe (n - 1) hW
      simp only [Array.toArray_toList] at hc
      refine hc.mono fun e w' ⟨v', E', he, hle, hr', hv'⟩ => ?_
      subst he
      exact hk E' v' w' hle hr' hv'
  · rename_i l first captured
    cases hb : (Nat.beq first.size 0 && Nat.beq captured.size 0) with
    | false => rw [hb] at h; simp only [cond_false] at h; exact (bad_ok.1 h).elim
    | true =>
      rw [hb] at h
      simp only [cond_true] at h
      generalize hga : a.eval g = gv at hfv
      cases hfv with
      | yl hl =>
        rename_i e
        obtain ⟨lr, k1, k2, k3⟩ := yield_sound (n := n - 1) hW he h hr hl hargs
        have hargs' : (cl.args.map a.eval) = (cl.args.toList.map a.eval).toArray := by apply Array.toList_inj.1; simp
        have hrun : (execOp a.eval o).run P w = .ok (.round e.blk lr.fn ((lr.params.zip (cl.args.map a.eval)).foldl (fun tmps (t, a) => tmps.setIfInBounds t a) lr.tmps) lr.assign lr.body) w := by
          simp only [execOp, ho, resolve, hcl, hga, Deferred.ofValue, Sem.run_bind, Sem.run_pure, Result.andThen_ok, invoke]
          rw [show (#[] ++ cl.args.map a.eval : Array Value) = cl.args.map a.eval from by simp]
          rw [run_yield k1 (by rw [hargs']; exact k2)]
        refine ⟨fun f _ => hW.1 f, ?_⟩
        rw [Oper.semAt_eq _ _ _ (fun c e => by rw [ho] at e; cases e), hrun]
        rw [Oper.uponIn_round]
        refine ⟨(fun hd => by rw [hW.2] at hd; cases hd), ?_⟩
        rw [hargs']
        exact k3 _ fun E' v' w' hle hr' hv => hk E' v' w' hle hr' hv
  · exact (bad_ok.1 h).elim
end
end Go.Sx
namespace Go.Sx
section
variable {P : Program} {w0 : World} {F : Nat → Prop} {E : Env} {H : Heap} {w : World} {R : Option Nat}
theorem pairs_fst (xs : List (Nat × Operand)) (ρ : Operand → Value) : (xs.map fun (p : Nat × Operand) => (p.1, ρ p.2)) = xs.map fun (i, x) => (i, ρ x) := rfl
theorem findLd_of {t k : Nat} : ∀ {l : List LdE} {e : LdE}, findLd t k l = some e → e ∈ l ∧ t = e.t ∧ k = e.k
  | [], e, h => by cases h
  | x :: l, e, h => by
    simp only [findLd] at h
    cases hb : (Nat.beq x.t t && Nat.beq x.k k) with
    | true =>
      rw [hb] at h
      cases h
      simp only [Bool.and_eq_true] at hb
      exact ⟨List.mem_cons_self, (Nat.eq_of_beq_eq_true hb.1).symm, (Nat.eq_of_beq_eq_true hb.2).symm⟩
    | false =>
      rw [hb] at h
      obtain ⟨h1, h2⟩ := findLd_of h
      exact ⟨List.mem_cons_of_mem _ h1, h2⟩
theorem findApp_of {ats : List TypeId} {args : List Value} {c : Nat} : ∀ {l : List (List TypeId × Entry)} {e : Entry}, findApp ats args c l = some e → ∃ ts, (ts, e) ∈ l ∧ c = e.c ∧ args = e.args ∧ ts = ats
  | [], e, h => by cases h
  | (ts, x) :: l, e, h => by
    simp only [findApp] at h
    cases hb : (Nat.beq x.c c && beqVL args x.args && decide (ts = ats)) with
    | true =>
      rw [hb] at h
      cases h
      simp only [Bool.and_eq_true, decide_eq_true_eq] at hb
      exact ⟨ts, List.mem_cons_self, (Nat.eq_of_beq_eq_true hb.1.1).symm, beqVL_eq hb.1.2, hb.2⟩
    | false =>
      rw [hb] at h
      obtain ⟨ts, h1, h2⟩ := findApp_of h
      exact ⟨ts, List.mem_cons_of_mem _ h1, h2⟩
theorem op_sound [Den] [Asm] [AsmOK P] {Fe : Fence} {n : Nat} {r : Rec} {f : Fr} {o : Oper} {a : Act} {next : Act → World → Prop} {Q : Exit → Act → World → Prop} (hW : Wd Fe) (hcs : CallSnd P w0 F r) (he : ExecSnd P w0 F r)
    {v : Value} {c c' : Nat} {H' : Heap} {L : Lg} (h : opA P r f o c H = .ok v c' H' L) (hf : FR E R f a) (hr : HR P w0 F E H w)
    (hk : ∀ E' v' w', E.le E' → HR P w0 F E' H' w' → VR E' v v' → next (a.put o.dst v') w') : o.wpIn Fe n P a w next Q := by
  have nd : ∀ (op : Op), o.op = op → (∀ c, op ≠ .defer c) → ∀ c, o.op ≠ .defer c := fun op h1 h2 c => by rw [h1]; exact h2 c
  -- a step that leaves the world alone
  have stay : ∀ {v' : Value}, c' = c → H' = H → (∀ c, o.op ≠ .defer c) → (execOp a.eval o).run P w = .ok (.value v') w → VR E v v' → o.wpIn Fe n P a w next Q :=
    fun e1 e2 hd hrun hv => wp_val hW hd hrun (hk E _ w (E.le_refl) (by rw [e2]; exact hr) hv)
  unfold opA at h
  generalize ho : o.op = op at h
  cases op
  case move x =>
    dsimp only [oPick, oAlloc, oBox, oBuild, oBuildSlice, oLoad, oStore, oNilCheck, oBinOp, oUnOp, oConvert, oMakeFunc, oSliceToArrayPointer, oMakeSlice, oSlice, oFieldAddr, oField, oIndexAddr, oIndex, oLookup, oMapUpdate, oInsert, oExtract, oCall] at h
    obtain ⟨q1, q2, _⟩ := eval_ok h
    exact stay q1 q2 (nd _ ho (by simp)) (by simp [execOp, ho]) (eval_sound hf h)
  case assign x =>
    dsimp only [oPick, oAlloc, oBox, oBuild, oBuildSlice, oLoad, oStore, oNilCheck, oBinOp, oUnOp, oConvert, oMakeFunc, oSliceToArrayPointer, oMakeSlice, oSlice, oFieldAddr, oField, oIndexAddr, oIndex, oLookup, oMapUpdate, oInsert, oExtract, oCall] at h
    obtain ⟨q1, q2, _⟩ := eval_ok h
    exact stay q1 q2 (nd _ ho (by simp)) (by simp [execOp, ho]) (eval_sound hf h)
  case pick cd x y =>
    dsimp only [oPick, oAlloc, oBox, oBuild, oBuildSlice, oLoad, oStore, oNilCheck, oBinOp, oUnOp, oConvert, oMakeFunc, oSliceToArrayPointer, oMakeSlice, oSlice, oFieldAddr, oField, oIndexAddr, oIndex, oLookup, oMapUpdate, oInsert, oExtract, oCall] at h
    replace h := beval h; obtain ⟨cv, _, hcv, h⟩ := h
    replace h := beval h; obtain ⟨xv, _, hxv, h⟩ := h
    replace h := beval h; obtain ⟨yv, _, hyv, h⟩ := h
    have e1 := eval_sound hf hcv
    have e2 := eval_sound hf hxv
    have e3 := eval_sound hf hyv
    cases htr : truth cv with
    | none => rw [htr] at h; exact (bad_ok.1 h).elim
    | some t =>
    rw [htr] at h
    dsimp only at h
    generalize hga : a.eval cd = gv at e1
    have := truth_sound (P := P) htr e1
    subst this
    obtain ⟨q0, q1, q2, _⟩ := pure_ok.1 h
    refine stay (v' := if t then a.eval x else a.eval y) q1 q2 (nd _ ho (by simp)) (by simp [execOp, ho, hga, asBool]) ?_
    subst q0
    cases t
    · simpa using e3
    · simpa using e2
  case alloc el =>
    dsimp only [oPick, oAlloc, oBox, oBuild, oBuildSlice, oLoad, oStore, oNilCheck, oBinOp, oUnOp, oConvert, oMakeFunc, oSliceToArrayPointer, oMakeSlice, oSlice, oFieldAddr, oField, oIndexAddr, oIndex, oLookup, oMapUpdate, oInsert, oExtract, oCall] at h
    replace h := bopt h; obtain ⟨z, _, hz, h⟩ := h
    replace h := bguard h; obtain ⟨_, hcl, h⟩ := h
    obtain ⟨E', k1, k2, k3⟩ := newRow_sound h hr (VR.clean (E := E) hcl).cells
    refine wp_val hW (nd _ ho (by simp)) ?_ (hk E' _ _ k1 k2 k3)
    simp [execOp, ho, Instr.alloc, run_zero hz, newVar, run_newRow]
  case box el x =>
    dsimp only [oPick, oAlloc, oBox, oBuild, oBuildSlice, oLoad, oStore, oNilCheck, oBinOp, oUnOp, oConvert, oMakeFunc, oSliceToArrayPointer, oMakeSlice, oSlice, oFieldAddr, oField, oIndexAddr, oIndex, oLookup, oMapUpdate, oInsert, oExtract, oCall] at h
    replace h := beval h; obtain ⟨xv, _, hxv, h⟩ := h
    obtain ⟨E', k1, k2, k3⟩ := newRow_sound h hr (eval_sound hf hxv).cells
    refine wp_val hW (nd _ ho (by simp)) ?_ (hk E' _ _ k1 k2 k3)
    simp [execOp, ho, Instr.box, newVar, run_newRow]
  case build t ps =>
    dsimp only [oPick, oAlloc, oBox, oBuild, oBuildSlice, oLoad, oStore, oNilCheck, oBinOp, oUnOp, oConvert, oMakeFunc, oSliceToArrayPointer, oMakeSlice, oSlice, oFieldAddr, oField, oIndexAddr, oIndex, oLookup, oMapUpdate, oInsert, oExtract, oCall] at h
    replace h := bind_ok.1 h; obtain ⟨vs, c1, h1, _, _, hvs, h, _⟩ := h
    obtain ⟨q1, q2, q3, q4⟩ := pairsL_sound hf hvs
    obtain ⟨q5, q6, q7, _⟩ := opt_ok.1 h
    obtain ⟨v', hv1, hv2⟩ := build_sound (w := w) (parts' := ps.map fun (p : Nat × Operand) => (p.1, a.eval p.2)) q5 (by rw [map_pairs]; exact q3) (by rw [map_pairs]; exact q4)
    refine stay (q6.trans q1) (q7.trans q2) (nd _ ho (by simp)) ?_ hv2
    simp only [execOp, ho, Sem.run_bind]
    rw [show (ps.map fun (i, x) => (i, a.eval x)) = ps.map fun (p : Nat × Operand) => (p.1, a.eval p.2) from rfl, hv1]; rfl
  case buildSlice t m ps =>
    dsimp only [oPick, oAlloc, oBox, oBuild, oBuildSlice, oLoad, oStore, oNilCheck, oBinOp, oUnOp, oConvert, oMakeFunc, oSliceToArrayPointer, oMakeSlice, oSlice, oFieldAddr, oField, oIndexAddr, oIndex, oLookup, oMapUpdate, oInsert, oExtract, oCall] at h
    replace h := bind_ok.1 h; obtain ⟨vs, c1, h1, _, _, hvs, h, _⟩ := h
    obtain ⟨q1, q2, q3, q4⟩ := pairsL_sound hf hvs
    subst q1 q2
    obtain ⟨v', w', E', k1, k2, k3, k4⟩ := buildSlice_sound (parts' := ps.map fun (p : Nat × Operand) => (p.1, a.eval p.2)) h hr (by rw [map_pairs]; exact q3) (by rw [map_pairs]; exact q4)
    refine wp_val hW (nd _ ho (by simp)) ?_ (hk E' _ _ k2 k3 k4)
    simp only [execOp, ho, Sem.run_bind]
    rw [show (ps.map fun (i, x) => (i, a.eval x)) = ps.map fun (p : Nat × Operand) => (p.1, a.eval p.2) from rfl, k1]; rfl
  case load t x =>
    dsimp only [oPick, oAlloc, oBox, oBuild, oBuildSlice, oLoad, oStore, oNilCheck, oBinOp, oUnOp, oConvert, oMakeFunc, oSliceToArrayPointer, oMakeSlice, oSlice, oFieldAddr, oField, oIndexAddr, oIndex, oLookup, oMapUpdate, oInsert, oExtract, oCall] at h
    replace h := beval h; obtain ⟨xv, _, hxv, h⟩ := h
    split at h
    · rename_i k
      unfold loadX at h
      cases hfl : findLd t k Asm.lds with
      | none =>
        rw [hfl] at h
        simp only at h
        unfold appX at h
        cases hfa : findApp [t, 1000000] [.chan (some k)] c Asm.apps with
        | none => rw [hfa] at h; cases h
        | some e =>
          rw [hfa] at h
          obtain ⟨ts, m1, m2, m3, m4⟩ := findApp_of hfa
          subst m2
          have hl : LR E e.args [a.eval x] := by rw [← m3]; exact LR.cons (eval_sound hf hxv) (LR.nil E)
          obtain ⟨v', k1, E', k2, k3, k4⟩ := (AsmOK.app (P := P) _ m1).2.1 t m4 w0 F E H w _ _ _ _ _ h hr hl _ rfl
          exact wp_val hW (nd _ ho (by simp)) (by simp [execOp, ho, k1]) (hk E' _ _ k2 k3 k4)
      | some e =>
        rw [hfl] at h
        simp only at h
        split at h
        · rename_i T j ro hx
          cases hb : Nat.beq j e.j with
          | false => rw [hb] at h; cases h
          | true =>
            rw [hb] at h
            cases h
            have hj := Nat.eq_of_beq_eq_true hb
            subst hj
            obtain ⟨m1, m2, m3⟩ := findLd_of hfl
            subst m2 m3
            obtain ⟨v', k1, k2⟩ := AsmOK.ld (P := P) e m1 w0 F E H w T ro _ hr hx (eval_sound hf hxv)
            exact stay rfl rfl (nd _ ho (by simp)) (by simp [execOp, ho, k1]) k2
        · cases h
    · obtain ⟨q1, q2, v', hv1, hv2⟩ := load_sound h hr (eval_sound hf hxv)
      exact stay q1 q2 (nd _ ho (by simp)) (by simp [execOp, ho, hv1]) hv2
  case store t x y =>
    dsimp only [oPick, oAlloc, oBox, oBuild, oBuildSlice, oLoad, oStore, oNilCheck, oBinOp, oUnOp, oConvert, oMakeFunc, oSliceToArrayPointer, oMakeSlice, oSlice, oFieldAddr, oField, oIndexAddr, oIndex, oLookup, oMapUpdate, oInsert, oExtract, oCall] at h
    replace h := beval h; obtain ⟨xv, _, hxv, h⟩ := h
    replace h := beval h; obtain ⟨yv, _, hyv, h⟩ := h
    replace h := bind_ok.1 h; obtain ⟨u, c1, h1, _, _, hst, h, _⟩ := h
    unfold storeX at hst
    split at hst
    · rename_i k
      replace hst := bind_ok.1 hst
      obtain ⟨r, c2, h2, _, _, hap, hst, _⟩ := hst
      obtain ⟨_, g3, g4, _⟩ := pure_ok.1 hst
      subst g3 g4
      unfold appX at hap
      cases hfa : findApp [t, 1000001] [.chan (some k), yv] c Asm.apps with
      | none => rw [hfa] at hap; cases hap
      | some e =>
        rw [hfa] at hap
        obtain ⟨ts, m1, m2, m3, m4⟩ := findApp_of hfa
        subst m2
        have hl : LR E e.args [a.eval x, a.eval y] := by rw [← m3]; exact LR.cons (eval_sound hf hxv) (LR.cons (eval_sound hf hyv) (LR.nil E))
        obtain ⟨w', k1, E', k2, k3⟩ := (AsmOK.app (P := P) _ m1).2.2 t m4 w0 F E H w _ _ _ _ _ hap hr hl _ _ rfl
        obtain ⟨q2, q3, q4, _⟩ := pure_ok.1 h
        subst q2 q3 q4
        refine wp_skip' hW (nd _ ho (by simp)) (w' := w') ?_ (hk E' _ _ k2 k3 (VR.undef E'))
        simp [execOp, ho, k1]
    · obtain ⟨q1, w', k1, k2⟩ := store_sound hst hr (eval_sound hf hxv) (eval_sound hf hyv)
      obtain ⟨q2, q3, q4, _⟩ := pure_ok.1 h
      subst q2 q3 q4
      refine wp_skip' hW (nd _ ho (by simp)) (w' := w') ?_ (hk E _ _ E.le_refl k2 (VR.undef E))
      simp [execOp, ho, k1]
  case nilCheck x =>
    dsimp only [oPick, oAlloc, oBox, oBuild, oBuildSlice, oLoad, oStore, oNilCheck, oBinOp, oUnOp, oConvert, oMakeFunc, oSliceToArrayPointer, oMakeSlice, oSlice, oFieldAddr, oField, oIndexAddr, oIndex, oLookup, oMapUpdate, oInsert, oExtract, oCall] at h
    replace h := beval h; obtain ⟨xv, _, hxv, h⟩ := h
    have e1 := eval_sound hf hxv
    generalize hga : a.eval x = gv at e1
    cases xv <;> (try simp only at h) <;> first | (exact (bad_ok.1 h).elim) | skip
    · rename_i p
      cases p <;> (try simp only at h) <;> first | (exact (bad_ok.1 h).elim) | skip
      obtain ⟨q0, q1, q2, _⟩ := pure_ok.1 h
      subst q0
      cases e1 with
      | ptr he => exact stay q1 q2 (nd _ ho (by simp)) (by simp [execOp, ho, hga]) (.ptr he)
    · rename_i g p q
      cases g <;> simp only at h <;> first | (exact (bad_ok.1 h).elim) | skip
      obtain ⟨q0, q1, q2, _⟩ := pure_ok.1 h
      subst q0
      cases e1 with
      | fn a1 a2 a3 a4 => exact stay q1 q2 (nd _ ho (by simp)) (by simp [execOp, ho, hga]) (.fn a1 a2 a3 a4)
  case binOp op t x y yt =>
    dsimp only [oPick, oAlloc, oBox, oBuild, oBuildSlice, oLoad, oStore, oNilCheck, oBinOp, oUnOp, oConvert, oMakeFunc, oSliceToArrayPointer, oMakeSlice, oSlice, oFieldAddr, oField, oIndexAddr, oIndex, oLookup, oMapUpdate, oInsert, oExtract, oCall] at h
    replace h := beval h; obtain ⟨xv, _, hxv, h⟩ := h
    replace h := beval h; obtain ⟨yv, _, hyv, h⟩ := h
    obtain ⟨q1, q2, v', hv1, hv2⟩ := bin_sound (x := x) (y := y) h (eval_sound hf hxv) (eval_sound hf hyv) w
    refine stay q1 q2 (nd _ ho (by simp)) ?_ hv2
    simp only [execOp, ho, Sem.run_bind (P := P) (w := w) (x := (do eqGuard op t x y (a.eval x) (a.eval y); binOp op t (a.eval x) (a.eval y))), hv1]; rfl
  case unOp op t x =>
    dsimp only [oPick, oAlloc, oBox, oBuild, oBuildSlice, oLoad, oStore, oNilCheck, oBinOp, oUnOp, oConvert, oMakeFunc, oSliceToArrayPointer, oMakeSlice, oSlice, oFieldAddr, oField, oIndexAddr, oIndex, oLookup, oMapUpdate, oInsert, oExtract, oCall] at h
    replace h := beval h; obtain ⟨xv, _, hxv, h⟩ := h
    have e1 := eval_sound hf hxv
    cases hp : plainB xv with
    | false =>
      rw [hp] at h
      simp only [cond_false] at h
      obtain ⟨q5, q6, q7, _⟩ := opt_ok.1 h
      obtain ⟨r', k1, k2⟩ := AsmOK.ok (P := P) _ _ q5 E _ e1 w
      exact stay q6 q7 (nd _ ho (by simp)) (by simp [execOp, ho, k2]) k1
    | true =>
      rw [hp] at h
      simp only [cond_true] at h
      obtain ⟨q5, q6, q7, _⟩ := opt_ok.1 h
      obtain ⟨k1, k2⟩ := pure_run q5 (quiet_un hp) w
      have ea := e1.plain hp
      exact stay q6 q7 (nd _ ho (by simp)) (by simp [execOp, ho, ea, k1]) (VR.clean k2)
  case convert s d x =>
    dsimp only [oPick, oAlloc, oBox, oBuild, oBuildSlice, oLoad, oStore, oNilCheck, oBinOp, oUnOp, oConvert, oMakeFunc, oSliceToArrayPointer, oMakeSlice, oSlice, oFieldAddr, oField, oIndexAddr, oIndex, oLookup, oMapUpdate, oInsert, oExtract, oCall] at h
    replace h := beval h; obtain ⟨xv, _, hxv, h⟩ := h
    have e1 := eval_sound hf hxv
    cases hcc : (isIntT P s && isIntT P d && isIntV xv) with
    | false =>
      rw [hcc] at h
      simp only [cond_false] at h
      obtain ⟨q5, q6, q7, _⟩ := opt_ok.1 h
      obtain ⟨r', k1, k2⟩ := AsmOK.ok (P := P) _ _ q5 E _ e1 w
      exact stay q6 q7 (nd _ ho (by simp)) (by simp [execOp, ho, k2]) k1
    | true =>
      rw [hcc] at h
      simp only [cond_true] at h
      simp only [Bool.and_eq_true] at hcc
      obtain ⟨⟨hs0, hd0⟩, hv0⟩ := hcc
      obtain ⟨ks, hs⟩ : ∃ k, P.underlying s = some (.int k) := by
        unfold isIntT at hs0; split at hs0
        · rename_i k hk; exact ⟨k, hk⟩
        · cases hs0
      obtain ⟨kd, hd⟩ : ∃ k, P.underlying d = some (.int k) := by
        unfold isIntT at hd0; split at hd0
        · rename_i k hk; exact ⟨k, hk⟩
        · cases hd0
      obtain ⟨q5, q6, q7, _⟩ := opt_ok.1 h
      cases xv <;> first | (simp [isIntV] at hv0; done) | skip
      rename_i k3 m
      have ea := e1.plain rfl
      have hq : Quiet P (convert s d (.int k3 m)) := by
        unfold convert
        refine Quiet.bind (quiet_underlying s) fun u1 h1 => Quiet.bind (quiet_underlying d) fun u2 h2 => ?_
        obtain ⟨w1, w2, h1⟩ := h1
        obtain ⟨w3, w4, h2⟩ := h2
        rw [run_underlying hs] at h1
        rw [run_underlying hd] at h2
        cases h1; cases h2
        exact Quiet.pure _
      obtain ⟨k1, k2⟩ := pure_run q5 hq w
      exact stay q6 q7 (nd _ ho (by simp)) (by simp [execOp, ho, ea, k1]) (VR.clean k2)
  case makeFunc g x y =>
    dsimp only [oPick, oAlloc, oBox, oBuild, oBuildSlice, oLoad, oStore, oNilCheck, oBinOp, oUnOp, oConvert, oMakeFunc, oSliceToArrayPointer, oMakeSlice, oSlice, oFieldAddr, oField, oIndexAddr, oIndex, oLookup, oMapUpdate, oInsert, oExtract, oCall] at h
    replace h := bind_ok.1 h; obtain ⟨xs, c1, h1, _, _, hxs, h, _⟩ := h
    replace h := bind_ok.1 h; obtain ⟨ys, c2, h2, _, _, hys, h, _⟩ := h
    obtain ⟨q1, q2, q3⟩ := evalL_sound hf hxs
    obtain ⟨q4, q5, q6⟩ := evalL_sound hf hys
    cases g <;> simp only at h <;> first | (exact (bad_ok.1 h).elim) | skip
    rename_i g
    obtain ⟨q0, q7, q8, _⟩ := pure_ok.1 h
    subst q0
    refine stay (v' := .func (.func g) (x.map a.eval) (y.map a.eval)) (q7.trans (q4.trans q1)) (q8.trans (q5.trans q2)) (nd _ ho (by simp)) (by simp [execOp, ho, Instr.makeFunc]) ?_
    have l1 : LR E xs.toArray.toList (x.map a.eval).toList := by simpa using q3
    have l2 : LR E ys.toArray.toList (y.map a.eval).toList := by simpa using q6
    exact .fn l1.1 l1.2 l2.1 l2.2
  case makeMap t r =>
    cases r <;> dsimp only at h <;> first | (exact (bad_ok.1 h).elim) | skip
    replace h := bind_ok.1 h; obtain ⟨j, c1, h1, _, _, hj0, h, _⟩ := h
    obtain ⟨q0, q1, q2, _⟩ := pure_ok.1 h
    obtain ⟨hj1, hj2, hj, hj3, _⟩ := newA_inv hj0
    subst q0 q1 q2 hj1 hj2 hj3
    have hfr := hr.fresh (o := .map []) (b := .map #[] 0) (cap := 0) hj (fun w' hw' => ⟨_, #[], 0, by simp [Env.upd]; rfl, by rw [hw']; simp, .nil⟩)
    have hE : Env.upd E j ⟨w.heap.size, 0, 0⟩ j = some ⟨w.heap.size, 0, 0⟩ := by simp [Env.upd]
    refine wp_val hW (nd _ ho (by simp)) (w' := { w with heap := w.heap.push (.map #[] 0) }) (v' := .map (some w.heap.size)) ?_ (hk _ _ _ hfr.1 hfr.2 (.map hE))
    simp [execOp, ho, Instr.makeMap]
  case makeSlice t x y =>
    dsimp only [oPick, oAlloc, oBox, oBuild, oBuildSlice, oLoad, oStore, oNilCheck, oBinOp, oUnOp, oConvert, oMakeFunc, oSliceToArrayPointer, oMakeSlice, oSlice, oFieldAddr, oField, oIndexAddr, oIndex, oLookup, oMapUpdate, oInsert, oExtract, oCall] at h
    replace h := beval h; obtain ⟨xv, _, hxv, h⟩ := h
    replace h := beval h; obtain ⟨yv, _, hyv, h⟩ := h
    obtain ⟨v', w', E', k1, k2, k3, k4⟩ := makeSlice_sound h hr (eval_sound hf hxv) (eval_sound hf hyv)
    refine wp_val hW (nd _ ho (by simp)) ?_ (hk E' _ _ k2 k3 k4)
    simp [execOp, ho, k1]
  case sliceToArrayPointer t x =>
    dsimp only [oPick, oAlloc, oBox, oBuild, oBuildSlice, oLoad, oStore, oNilCheck, oBinOp, oUnOp, oConvert, oMakeFunc, oSliceToArrayPointer, oMakeSlice, oSlice, oFieldAddr, oField, oIndexAddr, oIndex, oLookup, oMapUpdate, oInsert, oExtract, oCall] at h
    replace h := beval h; obtain ⟨xv, _, hxv, h⟩ := h
    obtain ⟨p1, p2, p3, _⟩ := opt_ok.1 h
    obtain ⟨v', hv1, hv2⟩ := arrayAt_sound p1 (eval_sound hf hxv) w
    exact stay p2 p3 (nd _ ho (by simp)) (by simp [execOp, ho, hv1]) hv2
  case slice t x lo hi mx =>
    dsimp only [oPick, oAlloc, oBox, oBuild, oBuildSlice, oLoad, oStore, oNilCheck, oBinOp, oUnOp, oConvert, oMakeFunc, oSliceToArrayPointer, oMakeSlice, oSlice, oFieldAddr, oField, oIndexAddr, oIndex, oLookup, oMapUpdate, oInsert, oExtract, oCall] at h
    replace h := beval h; obtain ⟨xv, _, hxv, h⟩ := h
    replace h := bind_ok.1 h; obtain ⟨lov, c1, h1, _, _, hlo, h, _⟩ := h
    replace h := bind_ok.1 h; obtain ⟨hiv, c2, h2, _, _, hhi, h, _⟩ := h
    replace h := bind_ok.1 h; obtain ⟨mxv, c3, h3, _, _, hmx, h, _⟩ := h
    obtain ⟨q1, q2, q3⟩ := evalO_sound hf hlo
    obtain ⟨q4, q5, q6⟩ := evalO_sound hf hhi
    obtain ⟨q7, q8, q9⟩ := evalO_sound hf hmx
    obtain ⟨p1, p2, p3, _⟩ := opt_ok.1 h
    obtain ⟨v', hv1, hv2⟩ : ∃ v', (Instr.sliceAt t (a.eval x) (lo.map a.eval) (hi.map a.eval) (mx.map a.eval)).run P w = .ok v' w ∧ VR E v v' := by
      unfold orAsm at p1
      split at p1
      · rename_i hia
        cases p1
        exact slice_sound hia (eval_sound hf hxv) q3 q6 q9 w
      · have orr : ∀ {x y : Option Value}, OR E x y → OptR E x y := fun h => by cases h with
          | none => rfl
          | some h => exact ⟨_, rfl, h⟩
        obtain ⟨r', k1, k2⟩ := AsmOK.ok (P := P) _ _ p1 E _ _ _ _ (eval_sound hf hxv) (orr q3) (orr q6) (orr q9) w
        exact ⟨r', k2, k1⟩
    exact stay (p2.trans (q7.trans (q4.trans q1))) (p3.trans (q8.trans (q5.trans q2))) (nd _ ho (by simp)) (by simp [execOp, ho, hv1]) hv2
  case fieldAddr t x i =>
    dsimp only [oPick, oAlloc, oBox, oBuild, oBuildSlice, oLoad, oStore, oNilCheck, oBinOp, oUnOp, oConvert, oMakeFunc, oSliceToArrayPointer, oMakeSlice, oSlice, oFieldAddr, oField, oIndexAddr, oIndex, oLookup, oMapUpdate, oInsert, oExtract, oCall] at h
    replace h := beval h; obtain ⟨xv, _, hxv, h⟩ := h
    obtain ⟨p1, p2, p3, _⟩ := opt_ok.1 h
    obtain ⟨v', hv1, hv2⟩ := fieldAddr_sound (w := w) p1 (eval_sound hf hxv)
    exact stay p2 p3 (nd _ ho (by simp)) (by simp [execOp, ho, hv1]) hv2
  case field t x i =>
    dsimp only [oPick, oAlloc, oBox, oBuild, oBuildSlice, oLoad, oStore, oNilCheck, oBinOp, oUnOp, oConvert, oMakeFunc, oSliceToArrayPointer, oMakeSlice, oSlice, oFieldAddr, oField, oIndexAddr, oIndex, oLookup, oMapUpdate, oInsert, oExtract, oCall] at h
    replace h := beval h; obtain ⟨xv, _, hxv, h⟩ := h
    obtain ⟨p1, p2, p3, _⟩ := opt_ok.1 h
    obtain ⟨v', hv1, hv2⟩ := field_sound (w := w) p1 (eval_sound hf hxv)
    exact stay p2 p3 (nd _ ho (by simp)) (by simp [execOp, ho, hv1]) hv2
  case indexAddr t x i =>
    dsimp only [oPick, oAlloc, oBox, oBuild, oBuildSlice, oLoad, oStore, oNilCheck, oBinOp, oUnOp, oConvert, oMakeFunc, oSliceToArrayPointer, oMakeSlice, oSlice, oFieldAddr, oField, oIndexAddr, oIndex, oLookup, oMapUpdate, oInsert, oExtract, oCall] at h
    replace h := beval h; obtain ⟨xv, _, hxv, h⟩ := h
    replace h := beval h; obtain ⟨iv, _, hiv, h⟩ := h
    obtain ⟨p1, p2, p3, _⟩ := opt_ok.1 h
    obtain ⟨v', hv1, hv2⟩ : ∃ v', (Instr.indexAt t (a.eval x) (a.eval i)).run P w = .ok v' w ∧ VR E v v' := by
      unfold orAsm at p1
      split at p1
      · rename_i hia
        cases p1
        exact indexAddr_sound (w := w) hia (eval_sound hf hxv) (eval_sound hf hiv)
      · obtain ⟨r', k1, k2⟩ := AsmOK.ok (P := P) _ _ p1 E _ _ (eval_sound hf hxv) (eval_sound hf hiv) w
        exact ⟨r', k2, k1⟩
    exact stay p2 p3 (nd _ ho (by simp)) (by simp [execOp, ho, hv1]) hv2
  case index t x i =>
    dsimp only [oPick, oAlloc, oBox, oBuild, oBuildSlice, oLoad, oStore, oNilCheck, oBinOp, oUnOp, oConvert, oMakeFunc, oSliceToArrayPointer, oMakeSlice, oSlice, oFieldAddr, oField, oIndexAddr, oIndex, oLookup, oMapUpdate, oInsert, oExtract, oCall] at h
    replace h := beval h; obtain ⟨xv, _, hxv, h⟩ := h
    replace h := beval h; obtain ⟨iv, _, hiv, h⟩ := h
    obtain ⟨p1, p2, p3, _⟩ := opt_ok.1 h
    obtain ⟨v', hv1, hv2⟩ : ∃ v', (Instr.index t (a.eval x) (a.eval i)).run P w = .ok v' w ∧ VR E v v' := by
      unfold orAsm at p1
      split at p1
      · rename_i hia
        cases p1
        exact index_sound (w := w) hia (eval_sound hf hxv) (eval_sound hf hiv)
      · obtain ⟨r', k1, k2⟩ := AsmOK.ok (P := P) _ _ p1 E _ _ (eval_sound hf hxv) (eval_sound hf hiv) w
        exact ⟨r', k2, k1⟩
    exact stay p2 p3 (nd _ ho (by simp)) (by simp [execOp, ho, hv1]) hv2
  case lookup t x i ok =>
    dsimp only [oPick, oAlloc, oBox, oBuild, oBuildSlice, oLoad, oStore, oNilCheck, oBinOp, oUnOp, oConvert, oMakeFunc, oSliceToArrayPointer, oMakeSlice, oSlice, oFieldAddr, oField, oIndexAddr, oIndex, oLookup, oMapUpdate, oInsert, oExtract, oCall] at h
    replace h := beval h; obtain ⟨xv, _, hxv, h⟩ := h
    replace h := beval h; obtain ⟨iv, _, hiv, h⟩ := h
    obtain ⟨q1, q2, v', hv1, hv2⟩ := lookup_sound h hr (eval_sound hf hxv) (eval_sound hf hiv)
    exact stay q1 q2 (nd _ ho (by simp)) (by simp [execOp, ho, hv1]) hv2
  case mapUpdate t m k x =>
    dsimp only [oPick, oAlloc, oBox, oBuild, oBuildSlice, oLoad, oStore, oNilCheck, oBinOp, oUnOp, oConvert, oMakeFunc, oSliceToArrayPointer, oMakeSlice, oSlice, oFieldAddr, oField, oIndexAddr, oIndex, oLookup, oMapUpdate, oInsert, oExtract, oCall] at h
    replace h := beval h; obtain ⟨mv, _, hmv, h⟩ := h
    replace h := beval h; obtain ⟨kv, _, hkv, h⟩ := h
    replace h := beval h; obtain ⟨xv, _, hxv, h⟩ := h
    replace h := bind_ok.1 h; obtain ⟨u, c1, h1, _, _, hst, h, _⟩ := h
    obtain ⟨q1, w', k1, k2⟩ := update_sound hst hr (eval_sound hf hmv) (eval_sound hf hkv) (eval_sound hf hxv)
    obtain ⟨q2, q3, q4, _⟩ := pure_ok.1 h
    subst q2 q3 q4
    refine wp_skip' hW (nd _ ho (by simp)) (w' := w') ?_ (hk E _ _ E.le_refl k2 (VR.undef E))
    simp [execOp, ho, k1]
  case insert t m k x =>
    dsimp only [oPick, oAlloc, oBox, oBuild, oBuildSlice, oLoad, oStore, oNilCheck, oBinOp, oUnOp, oConvert, oMakeFunc, oSliceToArrayPointer, oMakeSlice, oSlice, oFieldAddr, oField, oIndexAddr, oIndex, oLookup, oMapUpdate, oInsert, oExtract, oCall] at h
    replace h := beval h; obtain ⟨mv, _, hmv, h⟩ := h
    replace h := beval h; obtain ⟨kv, _, hkv, h⟩ := h
    replace h := beval h; obtain ⟨xv, _, hxv, h⟩ := h
    replace h := bind_ok.1 h; obtain ⟨u, c1, h1, _, _, hst, h, _⟩ := h
    obtain ⟨q1, w', k1, k2⟩ := update_sound hst hr (eval_sound hf hmv) (eval_sound hf hkv) (eval_sound hf hxv)
    obtain ⟨q2, q3, q4, _⟩ := pure_ok.1 h
    subst q2 q3 q4
    refine wp_skip' hW (nd _ ho (by simp)) (w' := w') ?_ (hk E _ _ E.le_refl k2 (VR.undef E))
    simp [execOp, ho, k1]
  case extract x i =>
    dsimp only [oPick, oAlloc, oBox, oBuild, oBuildSlice, oLoad, oStore, oNilCheck, oBinOp, oUnOp, oConvert, oMakeFunc, oSliceToArrayPointer, oMakeSlice, oSlice, oFieldAddr, oField, oIndexAddr, oIndex, oLookup, oMapUpdate, oInsert, oExtract, oCall] at h
    replace h := beval h; obtain ⟨xv, _, hxv, h⟩ := h
    have e1 := eval_sound hf hxv
    generalize hga : a.eval x = gv at e1
    cases xv <;> simp only at h <;> first | (exact (bad_ok.1 h).elim) | skip
    rename_i vs
    obtain ⟨p1, p2, p3, _⟩ := opt_ok.1 h
    cases e1 with
    | tup a1 a2 =>
      rename_i vs'
      obtain ⟨y, hy, hv⟩ := LR.get (E := E) ⟨a1, a2⟩ (k := i) (x := v) (by simpa using p1)
      have hy' : vs'[i]? = some y := by simpa using hy
      exact stay p2 p3 (nd _ ho (by simp)) (by simp [execOp, ho, hga, Instr.extract, hy']) hv
  case call cl =>
    dsimp only [oPick, oAlloc, oBox, oBuild, oBuildSlice, oLoad, oStore, oNilCheck, oBinOp, oUnOp, oConvert, oMakeFunc, oSliceToArrayPointer, oMakeSlice, oSlice, oFieldAddr, oField, oIndexAddr, oIndex, oLookup, oMapUpdate, oInsert, oExtract, oCall] at h
    generalize hcl : cl.callee = ce at h
    cases ce <;> dsimp only at h
    case value g =>
      replace h := beval h; obtain ⟨gv, _, hgv, h⟩ := h
      replace h := bind_ok.1 h; obtain ⟨args, c1, h1, _, _, hargs, h, _⟩ := h
      obtain ⟨q1, q2, q3⟩ := evalL_sound hf hargs
      subst q1 q2
      exact callV_sound hW hcs he ho hcl h hr (eval_sound hf hgv) q3 hk
    case invoke => exact (bad_ok.1 h).elim
    case builtin b =>
      replace h := bind_ok.1 h; obtain ⟨args, c1, h1, _, _, hargs, h, _⟩ := h
      obtain ⟨q1, q2, q3⟩ := evalL_sound hf hargs
      subst q1 q2
      have hargs' : (cl.args.map a.eval) = (cl.args.toList.map a.eval).toArray := by apply Array.toList_inj.1; simp
      unfold builtinA at h
      cases b <;> dsimp only at h
      case append =>
        obtain ⟨v', w', E', k1, k2, k3, k4⟩ : ∃ v' w' E', (Builtin.append_ cl.argTypes o.type (cl.args.toList.map a.eval).toArray).run P w = .ok v' w' ∧ E.le E' ∧ HR P w0 F E' H' w' ∧ VR E' v v' := by
          cases hcx : args.any isCx with
          | false => rw [hcx] at h; exact append_sound (ty := o.type) h hr q3
          | true =>
            rw [hcx] at h
            simp only [cond_true] at h
            cases hbg : cl.argTypes.toList.any (Nat.ble 1000000) with
            | true => rw [hbg] at h; simp only [cond_true] at h; exact (bad_ok.1 h).elim
            | false =>
            rw [hbg] at h
            simp only [cond_false] at h
            unfold appX at h
            cases hfa : findApp cl.argTypes.toList args _ Asm.apps with
            | none => rw [hfa] at h; cases h
            | some e =>
              rw [hfa] at h
              obtain ⟨ts, m1, m2, m3, m4⟩ := findApp_of hfa
              subst m2 m3
              exact (AsmOK.app (P := P) _ m1).1 (by rw [m4]; exact hbg) w0 F E _ w _ _ _ _ _ o.type cl.argTypes h hr q3 m4.symm
        refine wp_val hW (nd _ ho (by simp)) ?_ (hk E' _ _ k2 k3 k4)
        simp only [execOp, ho, resolve, hcl, Sem.run_bind, Sem.run_pure, Result.andThen_ok, invoke, builtin, hargs', k1]
      case copy =>
        obtain ⟨v', w', k1, k2, k3⟩ := copy_sound (ty := o.type) h hr q3
        refine wp_val hW (nd _ ho (by simp)) ?_ (hk E _ _ E.le_refl k2 k3)
        simp only [execOp, ho, resolve, hcl, Sem.run_bind, Sem.run_pure, Result.andThen_ok, invoke, builtin, hargs', k1]
      case min =>
        match args, q3, h with
        | [x, y], q3, h =>
          dsimp only at h
          obtain ⟨p1, p2, p3, _⟩ := opt_ok.1 h
          obtain ⟨x', r1, hr1, hx, hnil⟩ := q3.cons_inv
          obtain ⟨y', r2, hr2, hy, hnil⟩ := hnil.cons_inv
          rw [hr2, hnil.nil_inv] at hr1
          obtain ⟨v', k1, k2⟩ : ∃ v', (if false then Builtin.max_ cl.argTypes o.type #[x', y'] else Builtin.min_ cl.argTypes o.type #[x', y']).run P w = .ok v' w ∧ VR E v v' := by
            unfold orAsm at p1
            split at p1
            · rename_i hia
              cases p1
              rw [hr1] at q3
              have := minmax_sound (P := P) (ats := cl.argTypes) (ty := o.type) hia q3 w
              exact ⟨_, this.1, this.2⟩
            · obtain ⟨r', k1, k2⟩ := AsmOK.ok (P := P) _ _ p1 E _ _ hx hy cl.argTypes o.type w
              exact ⟨r', k2, k1⟩
          refine stay p2 p3 (nd _ ho (by simp)) ?_ k2
          simp only [Bool.false_eq_true, if_false] at k1
          simp only [execOp, ho, resolve, hcl, Sem.run_bind, Sem.run_pure, Result.andThen_ok, invoke, builtin, hargs', hr1, k1]
        | [], _, h => exact (bad_ok.1 h).elim
        | [_], _, h => exact (bad_ok.1 h).elim
        | _ :: _ :: _ :: _, _, h => exact (bad_ok.1 h).elim
      case max =>
        match args, q3, h with
        | [x, y], q3, h =>
          dsimp only at h
          obtain ⟨p1, p2, p3, _⟩ := opt_ok.1 h
          obtain ⟨x', r1, hr1, hx, hnil⟩ := q3.cons_inv
          obtain ⟨y', r2, hr2, hy, hnil⟩ := hnil.cons_inv
          rw [hr2, hnil.nil_inv] at hr1
          obtain ⟨v', k1, k2⟩ : ∃ v', (if true then Builtin.max_ cl.argTypes o.type #[x', y'] else Builtin.min_ cl.argTypes o.type #[x', y']).run P w = .ok v' w ∧ VR E v v' := by
            unfold orAsm at p1
            split at p1
            · rename_i hia
              cases p1
              rw [hr1] at q3
              have := minmax_sound (P := P) (ats := cl.argTypes) (ty := o.type) hia q3 w
              exact ⟨_, this.1, this.2⟩
            · obtain ⟨r', k1, k2⟩ := AsmOK.ok (P := P) _ _ p1 E _ _ hx hy cl.argTypes o.type w
              exact ⟨r', k2, k1⟩
          refine stay p2 p3 (nd _ ho (by simp)) ?_ k2
          simp only [if_true] at k1
          simp only [execOp, ho, resolve, hcl, Sem.run_bind, Sem.run_pure, Result.andThen_ok, invoke, builtin, hargs', hr1, k1]
        | [], _, h => exact (bad_ok.1 h).elim
        | [_], _, h => exact (bad_ok.1 h).elim
        | _ :: _ :: _ :: _, _, h => exact (bad_ok.1 h).elim
      case len =>
        match args, q3, h with
        | [x], q3, h =>
          dsimp only [oPick, oAlloc, oBox, oBuild, oBuildSlice, oLoad, oStore, oNilCheck, oBinOp, oUnOp, oConvert, oMakeFunc, oSliceToArrayPointer, oMakeSlice, oSlice, oFieldAddr, oField, oIndexAddr, oIndex, oLookup, oMapUpdate, oInsert, oExtract, oCall] at h
          cases ht : cl.argTypes[0]? with
          | none => rw [ht] at h; exact (bad_ok.1 h).elim
          | some t =>
            rw [ht] at h
            obtain ⟨x', r1, hr1, hx, hnil⟩ := q3.cons_inv
            rw [hnil.nil_inv] at hr1
            obtain ⟨q4, q5, v', hv1, hv2⟩ : _ ∧ _ ∧ ∃ v', (Builtin.len_ cl.argTypes o.type #[x']).run P w = .ok v' w ∧ VR E v v' := by
              cases hcx : isCx x with
              | false =>
                simp only [hcx, cond_false] at h
                exact len_sound (ty := o.type) ht h hr hx
              | true =>
                simp only [hcx, cond_true] at h
                obtain ⟨p1, p2, p3, _⟩ := opt_ok.1 h
                obtain ⟨r', k1, k2⟩ := AsmOK.ok (P := P) _ _ p1 E _ hx cl.argTypes o.type w ht
                exact ⟨p2, p3, r', k2, k1⟩
            refine stay q4 q5 (nd _ ho (by simp)) ?_ hv2
            simp only [execOp, ho, resolve, hcl, Sem.run_bind, Sem.run_pure, Result.andThen_ok, invoke, builtin, hargs', hr1, hv1]
        | [], _, h => exact (bad_ok.1 h).elim
        | _ :: _ :: _, _, h => exact (bad_ok.1 h).elim
      case delete =>
        match args, q3, h with
        | [m, k], q3, h =>
          dsimp only [oPick, oAlloc, oBox, oBuild, oBuildSlice, oLoad, oStore, oNilCheck, oBinOp, oUnOp, oConvert, oMakeFunc, oSliceToArrayPointer, oMakeSlice, oSlice, oFieldAddr, oField, oIndexAddr, oIndex, oLookup, oMapUpdate, oInsert, oExtract, oCall] at h
          cases ht : cl.argTypes[0]? with
          | none => rw [ht] at h; exact (bad_ok.1 h).elim
          | some t =>
            rw [ht] at h
            obtain ⟨m', r1, hr1, hm, hnil⟩ := q3.cons_inv
            obtain ⟨k', r2, hr2, hkk, hnil⟩ := hnil.cons_inv
            rw [hr2, hnil.nil_inv] at hr1
            replace h := bind_ok.1 h; obtain ⟨u, c2, h2, _, _, hst, h, _⟩ := h
            obtain ⟨q4, w', k1, k2⟩ := delete_sound (ty := o.type) ht hst hr hm hkk
            obtain ⟨q5, q6, q7, _⟩ := pure_ok.1 h
            subst q5 q6 q7
            refine wp_val hW (nd _ ho (by simp)) (w' := w') (v' := .tuple #[]) ?_ (hk E _ _ E.le_refl k2 (VR.undef E))
            simp only [execOp, ho, resolve, hcl, Sem.run_bind, Sem.run_pure, Result.andThen_ok, invoke, builtin, hargs', hr1, k1]
        | [], _, h => exact (bad_ok.1 h).elim
        | [_], _, h => exact (bad_ok.1 h).elim
        | _ :: _ :: _ :: _, _, h => exact (bad_ok.1 h).elim
      all_goals exact (bad_ok.1 h).elim
  all_goals (dsimp only at h; exact (bad_ok.1 h).elim)
end
end Go.Sx

import Derived.Test.YthandoangkckmaaGreatDoorSx6
import Derived.Laws.CopyRow
namespace Go.Sx
section
variable {P : Program} {w0 : World} {F : Nat → Prop} {E : Env} {H : Heap} {w : World}

/-! ## Slices -/
inductive OR [Den] (E : Env) : Option Value → Option Value → Prop
  | none : OR E none none
  | some {v v' : Value} (h : VR E v v') : OR E (some v) (some v')
theorem bound_run [Den] {y y' d n : Nat} {v v' : Value} {code : BoundsCode} (h : boundA y (some v) d = some n) (hv : VR E v v') (hy : y ≤ y') : (Instr.sliceBound v' y' code).run P w = .ok n w ∧ n ≤ y := by
  cases hv <;> simp only [boundA] at h <;> try (cases h; done)
  rename_i k i
  cases hd : decide (0 ≤ i ∧ i ≤ (y : Int)) with
  | false => rw [hd] at h; simp at h
  | true =>
    rw [hd] at h
    simp only [cond_true, Option.some.injEq] at h
    have hi := of_decide_eq_true hd
    subst h
    refine ⟨?_, by omega⟩
    simp only [Instr.sliceBound, asIntOf, Sem.run_bind, Sem.run_pure, Result.andThen_ok]
    rw [if_pos ⟨hi.1, by omega⟩]; rfl
theorem bounds_run [Den] {isS : Bool} {len cap cut m h l : Nat} {lo hi mx lo' hi' mx' : Option Value} (hm : boundA cut mx cut = some m) (hh : boundA m hi len = some h) (hl : boundA h lo 0 = some l)
    (no : (mx.isSome && !hi.isSome) = false) (hcut : cut ≤ cap) (ol : OR E lo lo') (oh : OR E hi hi') (om : OR E mx mx') (w : World) :
    (Instr.sliceBounds isS len cap lo' hi' mx').run P w = .ok (l, h, if mx.isSome then m else cap) w := by
  have low : ∀ code v, lo' = some v → (Instr.sliceBound v h code).run P w = .ok l w := by
    intro code v hv
    cases ol with
    | none => cases hv
    | some hvr => cases hv; exact (bound_run hl hvr (Nat.le_refl _)).1
  have low0 : lo' = none → l = 0 := by
    intro hv
    cases ol with
    | none => simp only [boundA, Option.some.injEq] at hl; exact hl.symm
    | some hvr => cases hv
  cases om with
  | none =>
    simp only [boundA, Option.some.injEq] at hm
    subst hm
    cases oh with
    | none =>
      simp only [boundA, Option.some.injEq] at hh
      subst hh
      cases hlo : lo' with
      | none => simp [Instr.sliceBounds, low0 hlo]
      | some v => simp [Instr.sliceBounds, low _ v hlo]
    | some hv =>
      have h1 := (bound_run (P := P) (w := w) (code := if isS then .sliceAcap else .sliceAlen) hh hv hcut).1
      cases hlo : lo' with
      | none => simp [Instr.sliceBounds, low0 hlo, h1]
      | some v => simp [Instr.sliceBounds, low _ v hlo, h1]
  | some hmv =>
    have h1 := (bound_run (P := P) (w := w) (code := if isS then .slice3Acap else .slice3Alen) hm hmv hcut).1
    cases oh with
    | none => simp at no
    | some hv =>
      have h3 := (bound_run (P := P) (w := w) (code := .slice3B) hh hv (Nat.le_refl _)).1
      cases hlo : lo' with
      | none => simp [Instr.sliceBounds, low0 hlo, h1, h3]
      | some v => simp [Instr.sliceBounds, low _ v hlo, h1, h3]
theorem bound_le {y d n : Nat} {o : Option Value} (h : boundA y o d = some n) (hd : d ≤ y) : n ≤ y := by
  cases o with
  | none => simp only [boundA, Option.some.injEq] at h; omega
  | some v =>
    cases v <;> simp only [boundA] at h <;> try (cases h; done)
    rename_i k i
    cases hdd : decide (0 ≤ i ∧ i ≤ (y : Int)) with
    | false => rw [hdd] at h; simp at h
    | true =>
      rw [hdd] at h
      simp only [cond_true, Option.some.injEq] at h
      have hi := of_decide_eq_true hdd
      omega

theorem bound_le' {y d n : Nat} {u : Value} (h : boundA y (some u) d = some n) : n ≤ y := by
  cases u <;> simp only [boundA] at h <;> try (cases h; done)
  rename_i k q
  cases hdd : decide (0 ≤ q ∧ q ≤ (y : Int)) with
  | false => rw [hdd] at h; simp at h
  | true =>
    rw [hdd] at h
    simp only [cond_true, Option.some.injEq] at h
    have := of_decide_eq_true hdd
    omega
theorem bound_zero {n : Nat} {o : Option Value} (h : boundA 0 o 0 = some n) : n = 0 := by have := bound_le h (Nat.le_refl 0); omega

theorem slice_sound [Den] {t : TypeId} {x x' v : Value} {lo hi mx lo' hi' mx' : Option Value} (h : sliceA P t x lo hi mx = some v) (hx : VR E x x') (ol : OR E lo lo') (oh : OR E hi hi') (om : OR E mx mx') (w : World) :
    ∃ v', (Instr.sliceAt t x' lo' hi' mx').run P w = .ok v' w ∧ VR E v v' := by
  unfold sliceA at h
  split at h
  · -- a string
    rename_i s hu
    split at h
    · rename_i h1 hb1
      split at h
      · rename_i l hl
        cases h
        cases hx
        cases om
        have hbr := bounds_run (P := P) (isS := false) (len := s.size) (cap := s.size) (cut := s.size) (m := s.size) (mx := none) rfl hb1 hl rfl (Nat.le_refl _) ol oh OR.none w
        refine ⟨_, ?_, .str _⟩
        simp [Instr.sliceAt, run_underlying hu, Instr.slice, hbr]
      · cases h
    · cases h
  · -- a nil slice
    rename_i e c1 c2 hu
    cases hno : (mx.isSome && !hi.isSome) with
    | true => rw [hno] at h; simp at h
    | false =>
      rw [hno] at h
      simp only [cond_false] at h
      split at h
      · rename_i a b c hb1 hb2 hb3
        split at h
        · rename_i n hn
          cases h
          cases hx
          have za := bound_zero hb1
          have zb := bound_zero hb2
          have zc := bound_zero hb3
          subst za zb zc
          have hbr := bounds_run (P := P) (isS := true) (len := 0) (cap := 0) (cut := 0) hb3 hb1 hb2 hno (Nat.le_refl _) ol oh om w
          refine ⟨.slice none 0 0, ?_, .nilS⟩
          simp [Instr.sliceAt, run_underlying hu, Instr.slice, hbr, run_size hn]
        · cases h
      · cases h
  · -- a slice
    rename_i e a len cap hu
    simp only at h
    cases hx with
    | sl he hnc ha =>
      rename_i i o ei a'
      split at h
      · rename_i n m hn hm
        split at h
        · rename_i hh hb1
          split at h
          · rename_i l hb2
            have hcut : (bif knownCap cap then cap else len) ≤ capOf ei cap := by
              cases hk : knownCap cap with
              | true =>
                have := blt_iff.1 hk
                simp only [cond_true, capOf]; rw [if_pos this]; exact Nat.le_refl _
              | false => simpa using hnc
            cases hno : (mx.isSome && !hi.isSome) with
            | true => rw [hno] at h; simp at h
            | false =>
              rw [hno] at h
              simp only [cond_false] at h
              have hbr := bounds_run (P := P) (isS := true) (len := len) (cap := capOf ei cap) hm hb1 hb2 hno hcut ol oh om w
              have hlh : l ≤ hh := bound_le hb2 (Nat.zero_le _)
              have hlen : len ≤ (bif knownCap cap then cap else len) := by
                cases hk : knownCap cap with
                | true =>
                  have h1 := blt_iff.1 hk
                  have h2 : capOf ei cap = cap := by unfold capOf; rw [if_pos h1]
                  simp only [cond_true]; omega
                | false => simp
              have hhm : hh ≤ m := by
                cases hi with
                | none =>
                  cases mx with
                  | none => simp only [boundA, Option.some.injEq] at hm hb1; omega
                  | some u => simp at hno
                | some u => exact bound_le' hb1
              have hmcut : m ≤ (bif knownCap cap then cap else len) := bound_le hm (Nat.le_refl _)
              cases hkn : (mx.isSome || knownCap cap) with
              | true =>
                rw [hkn] at h
                simp only [cond_true] at h
                cases hkm : knownCap m with
                | false => rw [hkm] at h; simp at h
                | true =>
                  rw [hkm] at h
                  simp only [cond_true, Option.some.injEq] at h
                  subst h
                  have hk := blt_iff.1 hkm
                  have hml : (if mx.isSome then m else capOf ei cap) = m := by
                    cases mx with
                    | none =>
                      simp only [Option.isSome_none, Bool.false_or] at hkn
                      have h1 := blt_iff.1 hkn
                      simp only [boundA, Option.some.injEq, hkn, cond_true] at hm
                      simp only [Option.isSome_none, Bool.false_eq_true, if_false]
                      unfold capOf; rw [if_pos h1]; exact hm
                    | some v => rfl
                  rw [hml] at hbr
                  have hcap : capOf ei (m - l) = m - l := by unfold capOf; rw [if_pos (by omega)]
                  refine ⟨.slice (some (if m = l then a' else Addr.add a' (l * n))) (hh - l) (m - l), ?_, ?_⟩
                  · by_cases hml2 : m = l <;> simp [Instr.sliceAt, Instr.slice, run_underlying hu, hbr, run_size hn, hml2]
                  · have hz : ∀ {k : Nat} {a2 : Addr}, (a2 = ⟨ei.blk, ei.off + (o + k), none⟩ ∨ m = 0) → VR E (.slice (some ⟨i, o + k, none⟩) (hh - l) (m - l)) (.slice (some a2) (hh - l) (m - l)) := by
                      intro k a2 h2
                      have hp := VR.sl (o := o + k) (n := hh - l) (c := m - l) (a' := a2) he (by rw [hcap]; omega) (by rcases h2 with h2 | h2; exact .inl h2; right; rw [hcap]; omega)
                      rw [hcap] at hp; exact hp
                    by_cases hml2 : m = l
                    · simp only [if_pos hml2]
                      have := hz (k := 0) (a2 := a') (by rcases ha with ha | ha; exact .inl ha; exact .inr (by omega))
                      simpa using this
                    · simp only [hml2, if_false, add_eq]
                      refine hz ?_
                      rcases ha with ha | ha
                      · left; rw [ha, add_eq, Nat.add_assoc]
                      · exact .inr (by omega)
              | false =>
                rw [hkn] at h
                simp only [cond_false] at h
                cases hgg : (Nat.ble (HALF + l) cap && Nat.ble cap INF) with
                | false => rw [hgg] at h; simp at h
                | true =>
                  rw [hgg] at h
                  simp only [cond_true, Option.some.injEq] at h
                  simp only [Bool.and_eq_true] at hgg
                  have g1 := Nat.le_of_ble_eq_true hgg.1
                  have g2 := Nat.le_of_ble_eq_true hgg.2
                  subst h
                  simp only [Bool.or_eq_false_iff] at hkn
                  have hml : (if mx.isSome then m else capOf ei cap) = capOf ei cap := by rw [hkn.1]; simp
                  rw [hml] at hbr
                  have hc1 : capOf ei cap = ei.cap - (INF - cap) := by unfold capOf; rw [if_neg (by omega)]
                  have hc2 : capOf ei (cap - l) = capOf ei cap - l := by
                    rw [hc1]; unfold capOf; rw [if_neg (by omega)]; omega
                  rw [hkn.2] at hmcut
                  simp only [cond_false] at hmcut
                  refine ⟨.slice (some (if capOf ei cap = l then a' else Addr.add a' (l * n))) (hh - l) (capOf ei cap - l), ?_, ?_⟩
                  · simp only [Instr.sliceAt, Sem.run_bind, run_underlying hu, Result.andThen_ok, Instr.slice, hbr, run_size hn, Sem.run_pure]
                    by_cases hml2 : capOf ei cap = l <;> simp [hml2]
                  · rw [add_eq, ← hc2]
                    refine VR.sl he (by rw [hc2]; omega) ?_
                    by_cases hml2 : capOf ei cap = l
                    · right; rw [hc2]; omega
                    · simp only [hml2, if_false]
                      rcases ha with ha | ha
                      · left; rw [ha, add_eq, Nat.add_assoc]
                      · right; rw [hc2]; omega
          · cases h
        · cases h
      · cases h
  · -- an array
    rename_i len e a hu
    cases hx with
    | ptr he =>
      rename_i i o ei
      split at h
      · rename_i n m hn hm
        split at h
        · rename_i hh hb1
          split at h
          · rename_i l hb2
            cases hg : ((mx.isSome && !hi.isSome) || !(knownCap m)) with
            | true => rw [hg] at h; simp at h
            | false =>
              rw [hg] at h
              simp only [cond_false, Option.some.injEq] at h
              simp only [Bool.or_eq_false_iff, Bool.not_eq_false'] at hg
              subst h
              have hbr := bounds_run (P := P) (isS := false) (len := len) (cap := len) hm hb1 hb2 (by simpa using hg.1) (Nat.le_refl _) ol oh om w
              have hlh : l ≤ hh := bound_le hb2 (Nat.zero_le _)
              have hml : (if mx.isSome then m else len) = m := by
                cases mx with
                | none => simp only [boundA, Option.some.injEq] at hm; simp [hm]
                | some v => rfl
              rw [hml] at hbr
              have hk := blt_iff.1 hg.2
              have hhm : hh ≤ m := by
                cases hi with
                | none =>
                  cases mx with
                  | none => simp only [boundA, Option.some.injEq] at hm hb1; omega
                  | some u => simp at hg
                | some u => exact bound_le' hb1
              have hcap : capOf ei (m - l) = m - l := by unfold capOf; rw [if_pos (by omega)]
              refine ⟨.slice (some (if m = l then ⟨ei.blk, ei.off + o, none⟩ else Addr.add ⟨ei.blk, ei.off + o, none⟩ (l * n))) (hh - l) (m - l), ?_, ?_⟩
              · simp [Instr.sliceAt, run_underlying hu, Instr.sureAddr, hbr, run_size hn]
              · by_cases hml : m = l
                · simp only [hml, if_true]
                  have hp := VR.sl (o := o) (n := hh - l) (c := m - l) (a' := ⟨ei.blk, ei.off + o, none⟩) he (by rw [hcap]; omega) (.inl rfl)
                  rw [hcap, hml] at hp; exact hp
                · simp only [hml, if_false, add_eq]
                  have hp := VR.sl (o := o + l * n) (n := hh - l) (c := m - l) (a' := ⟨ei.blk, ei.off + o + l * n, none⟩) he (by rw [hcap]; omega) (.inl (by rw [Nat.add_assoc]))
                  rw [hcap] at hp; exact hp
          · cases h
        · cases h
      · cases h
  · cases h
end
end Go.Sx

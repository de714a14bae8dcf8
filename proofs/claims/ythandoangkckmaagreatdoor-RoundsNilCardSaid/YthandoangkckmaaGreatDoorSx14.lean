import Derived.Test.YthandoangkckmaaGreatDoorSx13
namespace Go.Sx

/-! ## Places -/
inductive Loc where
  | cell (i k : Nat)
  | inf (i : Nat)
inductive Inf where
  | row (T : TypeId) (len : Nat) (ro : Bool)
  | map (es : List (Value × Value)) (bs : List Nat) (clk : Nat)
  | iter (m : Option Nat) (since : Nat) (seen : List Nat) (last : Nat)
  | loop (st : LoopState) (pending : Option Code) (f : Fr) (ps : List Tmp) (assign body : Code) (dfr : Nat)
  | defd
  | dead
  | orow (T : TypeId) (j : Nat) (ro : Bool)
inductive LV where
  | val (v : Value)
  | inf (i : Inf)
noncomputable def infOf : AObj → Inf
  | .row T cs ro => .row T cs.len ro
  | .map es bs clk => .map es bs clk
  | .iter m s l k => .iter m s l k
  | .loop st p f ps a b d => .loop st p f ps a b d
  | .defd => .defd
  | .dead => .dead
  | .orow T j ro => .orow T j ro
noncomputable def cellOf : AObj → Nat → Option Value
  | .row _ cs _, k => cs.get k
  | _, _ => none
noncomputable def look (h : Heap) : Loc → Option LV
  | .cell i k => ((h.get i).bind (cellOf · k)).map .val
  | .inf i => (h.get i).map (fun o => .inf (infOf o))
def Ev.touches : Ev → Loc → Prop
  | .cell i k _, .cell j m => i = j ∧ k = m
  | .info i, .inf j => i = j
  | .row i _, .cell j _ => i = j
  | .row i _, .inf j => i = j
  | _, _ => False
def Ev.writes : Ev → Loc → Prop
  | .cell i k w, .cell j m => w = true ∧ i = j ∧ k = m
  | .row i w, .cell j _ => w = true ∧ i = j
  | .row i w, .inf j => w = true ∧ i = j
  | _, _ => False
def Lg.mem (e : Ev) : Lg → Prop
  | .nil => False
  | .one f => e = f
  | .app a b => a.mem e ∨ b.mem e
def Lg.touch (L : Lg) (x : Loc) : Prop := ∃ e, L.mem e ∧ e.touches x
def Lg.wrote (L : Lg) (x : Loc) : Prop := ∃ e, L.mem e ∧ e.writes x
theorem Ev.touches_of_writes {e : Ev} {x : Loc} (h : e.writes x) : e.touches x := by
  cases e <;> cases x <;> simp_all [Ev.writes, Ev.touches]
theorem touch_of_wrote {L : Lg} {x : Loc} (h : L.wrote x) : L.touch x := let ⟨e, h1, h2⟩ := h; ⟨e, h1, Ev.touches_of_writes h2⟩
theorem touch_app {a b : Lg} {x : Loc} : (Lg.app a b).touch x ↔ a.touch x ∨ b.touch x := by
  constructor
  · rintro ⟨e, h1 | h1, h2⟩
    · exact .inl ⟨e, h1, h2⟩
    · exact .inr ⟨e, h1, h2⟩
  · rintro (⟨e, h1, h2⟩ | ⟨e, h1, h2⟩)
    · exact ⟨e, .inl h1, h2⟩
    · exact ⟨e, .inr h1, h2⟩
theorem wrote_app {a b : Lg} {x : Loc} : (Lg.app a b).wrote x ↔ a.wrote x ∨ b.wrote x := by
  constructor
  · rintro ⟨e, h1 | h1, h2⟩
    · exact .inl ⟨e, h1, h2⟩
    · exact .inr ⟨e, h1, h2⟩
  · rintro (⟨e, h1, h2⟩ | ⟨e, h1, h2⟩)
    · exact ⟨e, .inl h1, h2⟩
    · exact ⟨e, .inr h1, h2⟩
theorem touch_one {e : Ev} {x : Loc} : (Lg.one e).touch x ↔ e.touches x := ⟨fun ⟨_, h1, h2⟩ => h1 ▸ h2, fun h => ⟨e, rfl, h⟩⟩
theorem wrote_one {e : Ev} {x : Loc} : (Lg.one e).wrote x ↔ e.writes x := ⟨fun ⟨_, h1, h2⟩ => h1 ▸ h2, fun h => ⟨e, rfl, h⟩⟩
theorem wrote_nil {x : Loc} : ¬ Lg.nil.wrote x := fun ⟨_, h, _⟩ => h

/-- A computation sees what it touches alone. -/
def Local {α : Type} (m : M α) : Prop := ∀ c h a c' h' L, m c h = .ok a c' h' L →
  (∀ x, ¬ L.wrote x → look h' x = look h x) ∧
  ∀ g, (∀ x, L.touch x → look g x = look h x) → ∃ g', m c g = .ok a c' g' L ∧ (∀ x, L.wrote x → look g' x = look h' x) ∧ (∀ x, ¬ L.wrote x → look g' x = look g x)

theorem Local.pure {α : Type} (a : α) : Local (M.pure a) := by
  intro c h b c' h' L hh
  obtain ⟨rfl, rfl, rfl, rfl⟩ := pure_ok.1 hh
  exact ⟨fun _ _ => rfl, fun g _ => ⟨g, rfl, fun x hx => (wrote_nil hx).elim, fun _ _ => rfl⟩⟩
theorem Local.bad {α : Type} (n : Nat) : Local (M.bad n : M α) := fun _c _h _b _c' _h' _L hh => (bad_ok.1 hh).elim
theorem Local.opt {α : Type} (n : Nat) (o : Option α) : Local (optM n o) := by
  cases o with
  | none => exact Local.bad n
  | some a => exact Local.pure a
theorem Local.guard (n : Nat) (b : Bool) : Local (guardM n b) := by
  cases b with
  | false => exact Local.bad n
  | true => exact Local.pure ()
theorem bindL_ok {α β : Type} {m : M α} {f : α → Lg → M β} {c : Nat} {h : Heap} {b : β} {c' : Nat} {h' : Heap} {L : Lg} :
    bindL m f c h = .ok b c' h' L ↔ ∃ a c1 h1 l1 l2, m c h = .ok a c1 h1 l1 ∧ f a l1 c1 h1 = .ok b c' h' l2 ∧ L = .app l1 l2 := by
  unfold bindL
  constructor
  · intro hh
    cases hm : m c h with
    | bad n => rw [hm] at hh; cases hh
    | ok a c1 h1 l1 =>
      rw [hm] at hh
      dsimp only at hh
      cases hf : f a l1 c1 h1 with
      | bad n => rw [hf] at hh; cases hh
      | ok b2 c2 h2 l2 =>
        rw [hf] at hh
        cases hh
        exact ⟨a, c1, h1, l1, l2, rfl, hf, rfl⟩
  · rintro ⟨a, c1, h1, l1, l2, hm, hf, rfl⟩
    rw [hm]; simp only [hf]
theorem Local.bindL {α β : Type} {m : M α} {f : α → Lg → M β} (hm : Local m) (hf : ∀ a l, Local (f a l)) : Local (Sx.bindL m f) := by
  intro c h b c' h' L hh
  obtain ⟨a, c1, h1, l1, l2, h2, h3, rfl⟩ := bindL_ok.1 hh
  obtain ⟨p1, p2⟩ := hm _ _ _ _ _ _ h2
  obtain ⟨q1, q2⟩ := hf a l1 _ _ _ _ _ _ h3
  refine ⟨fun x hx => ?_, fun g hg => ?_⟩
  · rw [wrote_app] at hx
    rw [q1 x (fun h => hx (.inr h)), p1 x (fun h => hx (.inl h))]
  · obtain ⟨g1, r1, r2, r3⟩ := p2 g (fun x hx => hg x (touch_app.2 (.inl hx)))
    obtain ⟨g', s1, s2, s3⟩ := q2 g1 (fun x hx => by
      by_cases hw : l1.wrote x
      · exact r2 x hw
      · rw [r3 x hw, hg x (touch_app.2 (.inr hx)), p1 x hw])
    refine ⟨g', bindL_ok.2 ⟨a, c1, g1, l1, l2, r1, s1, rfl⟩, fun x hx => ?_, fun x hx => ?_⟩
    · by_cases hw : l2.wrote x
      · exact s2 x hw
      · rw [s3 x hw, q1 x hw]
        exact r2 x ((wrote_app.1 hx).resolve_right hw)
    · rw [wrote_app] at hx
      rw [s3 x (fun h => hx (.inr h)), r3 x (fun h => hx (.inl h))]
theorem Local.bind {α β : Type} {m : M α} {f : α → M β} (hm : Local m) (hf : ∀ a, Local (f a)) : Local (M.bind m f) := Local.bindL (f := fun a _ => f a) hm (fun a _ => hf a)

theorem look_set (h : Heap) (i : Nat) (o : AObj) (x : Loc) : look (h.set i o) x = match x with
    | .cell j k => if j = i then (cellOf o k).map .val else look h x
    | .inf j => if j = i then some (.inf (infOf o)) else look h x := by
  cases x with
  | cell j k =>
    simp only [look, Tr.get_set]
    by_cases hj : j = i <;> simp [hj]
  | inf j =>
    simp only [look, Tr.get_set]
    by_cases hj : j = i <;> simp [hj]
theorem look_inf {h : Heap} {i : Nat} {n : Inf} (hl : look h (.inf i) = some (.inf n)) : ∃ o, h.get i = some o ∧ infOf o = n := by
  simp only [look, Option.map_eq_some_iff] at hl
  obtain ⟨o, h1, h2⟩ := hl
  cases h2
  exact ⟨o, h1, rfl⟩

theorem Local.rd (i k : Nat) : Local (rd i k) := by
  intro c h v c' h' L hh
  obtain ⟨q1, q2, q3, T, cs, ro, hi, hk⟩ := rd_inv hh
  subst q1 q2 q3
  refine ⟨fun _ _ => rfl, fun g hg => ⟨g, ?_, fun x hx => ?_, fun _ _ => rfl⟩⟩
  · have := hg (.cell i k) (touch_one.2 ⟨rfl, rfl⟩)
    simp only [look, hi, Option.bind_some, cellOf, hk, Option.map_some] at this
    cases hgi : g.get i with
    | none => rw [hgi] at this; simp at this
    | some o =>
      rw [hgi] at this
      cases o <;> simp only [Option.bind_some, Option.map_none, reduceCtorEq] at this
      rename_i T2 cs2 ro2
      cases hk2 : cs2.get k with
      | none => rw [hk2] at this; simp at this
      | some u =>
        rw [hk2] at this
        simp only [Option.map_some, Option.some.injEq, LV.val.injEq] at this
        subst this
        simp [Sx.rd, hgi, hk2]
  · have := wrote_one.1 hx
    cases x <;> simp [Ev.writes] at this
theorem Local.wr (i k : Nat) (v : Value) : Local (wr i k v) := by
  intro c h u c' h' L hh
  obtain ⟨q1, q2, ho, T, cs, u0, hi, hk, q3⟩ := wr_inv hh
  subst q1 q2 q3
  have hw : ∀ x, ((Lg.one (Ev.info i)).app (Lg.one (Ev.cell i k true))).wrote x ↔ x = .cell i k := by
    intro x
    rw [wrote_app, wrote_one, wrote_one]
    cases x with
    | cell j m =>
      simp only [Ev.writes, Loc.cell.injEq, false_or, true_and]
      exact ⟨fun ⟨a, b⟩ => ⟨a.symm, b.symm⟩, fun ⟨a, b⟩ => ⟨a.symm, b.symm⟩⟩
    | inf j => simp [Ev.writes]
  refine ⟨fun x hx => ?_, fun g hg => ?_⟩
  · rw [hw] at hx
    rw [look_set]
    cases x with
    | cell j m =>
      simp only
      by_cases hj : j = i
      · subst hj
        have hm : m ≠ k := fun e => hx (by rw [e])
        simp only [if_true, cellOf, Cells.get_set hk, hm, if_false, look, hi, Option.bind_some]
      · simp [hj]
    | inf j =>
      simp only
      by_cases hj : j = i
      · subst hj; simp [look, hi, infOf, Cells.len_set]
      · simp [hj]
  · have h1 := hg (.inf i) (touch_app.2 (.inl (touch_one.2 rfl)))
    have h2 := hg (.cell i k) (touch_app.2 (.inr (touch_one.2 ⟨rfl, rfl⟩)))
    simp only [look, hi, Option.map_some, infOf] at h1
    simp only [look, hi, Option.bind_some, cellOf, hk, Option.map_some] at h2
    cases hgi : g.get i with
    | none => rw [hgi] at h1; simp at h1
    | some o =>
      rw [hgi] at h1 h2
      cases o <;> simp only [Option.map_some, Option.some.injEq, LV.inf.injEq, reduceCtorEq] at h1
      rename_i T2 cs2 ro2
      simp only [Inf.row.injEq] at h1
      obtain ⟨e1, e2, e3⟩ := h1
      subst e1 e3
      simp only [Option.bind_some] at h2
      cases hk2 : cs2.get k with
      | none => rw [hk2] at h2; simp at h2
      | some u1 =>
        refine ⟨g.set i (.row T2 (cs2.set k v) false), by simp [Sx.wr, hgi, hk2, ho], fun x hx => ?_, fun x hx => ?_⟩
        · rw [hw] at hx
          subst hx
          simp only [look_set, if_true, cellOf, Cells.get_set hk, Cells.get_set hk2]
        · rw [hw] at hx
          rw [look_set]
          cases x with
          | cell j m =>
            simp only
            by_cases hj : j = i
            · subst hj
              have hm : m ≠ k := fun e => hx (by rw [e])
              simp only [if_true, cellOf, Cells.get_set hk2, hm, if_false, look, hgi, Option.bind_some]
            · simp [hj]
          | inf j =>
            simp only
            by_cases hj : j = i
            · subst hj; simp [look, hgi, infOf, Cells.len_set]
            · simp [hj]
theorem Local.info (i : Nat) : Local (info i) := by
  intro c h r c' h' L hh
  have hh0 := hh
  obtain ⟨q1, q2, T, cs, ro, hi, q3⟩ := info_inv hh
  unfold Sx.info at hh0
  rw [hi] at hh0
  cases hh0
  refine ⟨fun _ _ => rfl, fun g hg => ⟨g, ?_, fun x hx => ?_, fun _ _ => rfl⟩⟩
  · have h1 := hg (.inf i) (touch_one.2 rfl)
    simp only [look, hi, Option.map_some, infOf] at h1
    cases hgi : g.get i with
    | none => rw [hgi] at h1; simp at h1
    | some o =>
      rw [hgi] at h1
      cases o <;> simp only [Option.map_some, Option.some.injEq, LV.inf.injEq, reduceCtorEq] at h1
      simp only [Inf.row.injEq] at h1
      obtain ⟨e1, e2, e3⟩ := h1
      subst e1 e3
      simp [Sx.info, hgi, e2]
  · have := wrote_one.1 hx
    cases x <;> simp [Ev.writes] at this
theorem row_wrote {i : Nat} {x : Loc} : (Lg.one (Ev.row i true)).wrote x ↔ (∃ k, x = .cell i k) ∨ x = .inf i := by
  rw [wrote_one]
  cases x with
  | cell j k => simp only [Ev.writes, true_and, Loc.cell.injEq, reduceCtorEq, or_false]; exact ⟨fun h => ⟨k, h.symm, rfl⟩, fun ⟨_, h, _⟩ => h.symm⟩
  | inf j => simp only [Ev.writes, true_and, reduceCtorEq, exists_false, false_or, Loc.inf.injEq]; exact ⟨fun h => h.symm, fun h => h.symm⟩
theorem look_set_other {h : Heap} {i : Nat} {o : AObj} {x : Loc} (hx : ¬ (Lg.one (Ev.row i true)).wrote x) : look (h.set i o) x = look h x := by
  rw [row_wrote] at hx
  rw [look_set]
  cases x with
  | cell j k =>
    have : j ≠ i := fun e => hx (.inl ⟨k, by rw [e]⟩)
    simp [this]
  | inf j =>
    have : j ≠ i := fun e => hx (.inr (by rw [e]))
    simp [this]
theorem look_set_same {h g : Heap} {i : Nat} {o : AObj} {x : Loc} (hx : (Lg.one (Ev.row i true)).wrote x) : look (h.set i o) x = look (g.set i o) x := by
  rw [row_wrote] at hx
  rcases hx with ⟨k, rfl⟩ | rfl <;> simp [look_set]
theorem Local.newA (o : AObj) : Local (newA o) := by
  intro c h j c' h' L hh
  obtain ⟨q1, q2, hn, q3, q4⟩ := newA_inv hh
  subst q1 q2 q3 q4
  refine ⟨fun x hx => look_set_other hx, fun g hg => ⟨g.set j o, ?_, fun x hx => look_set_same hx, fun x hx => look_set_other hx⟩⟩
  have h1 := hg (.inf j) (touch_one.2 rfl)
  simp only [look, hn, Option.map_none, Option.map_eq_none_iff] at h1
  simp [Sx.newA, h1]
theorem Local.killA (i : Nat) : Local (killA i) := by
  intro c h u c' h' L hh
  have hh0 := hh
  obtain ⟨q1, q2, T, cs, hi⟩ := killA_inv hh
  unfold Sx.killA at hh0
  rw [hi] at hh0
  cases hh0
  refine ⟨fun x hx => look_set_other hx, fun g hg => ⟨g.set i .dead, ?_, fun x hx => look_set_same hx, fun x hx => look_set_other hx⟩⟩
  have h1 := hg (.inf i) (touch_one.2 rfl)
  simp only [look, hi, Option.map_some, infOf] at h1
  cases hgi : g.get i with
  | none => rw [hgi] at h1; simp at h1
  | some o =>
    rw [hgi] at h1
    cases o <;> simp only [Option.map_some, Option.some.injEq, LV.inf.injEq, reduceCtorEq] at h1
    simp only [Inf.row.injEq] at h1
    obtain ⟨e1, e2, e3⟩ := h1
    subst e1 e3
    simp [Sx.killA, hgi]
theorem Local.growA (i : Nat) (T : TypeId) (new : List Value) : Local (growA i T new) := by
  intro c h j c' h' L hh
  obtain ⟨q1, q2, q3, cs, hi, hn, q4⟩ := growA_inv hh
  subst q1 q2 q3 q4
  have hne : j ≠ i := fun e => by rw [e, hi] at hn; cases hn
  have other : ∀ {g : Heap} {o : AObj} {x : Loc}, ¬ ((Lg.one (Ev.row i true)).app (Lg.one (Ev.row j true))).wrote x → look ((g.set i .dead).set j o) x = look g x := fun hx => by
    rw [wrote_app] at hx
    rw [look_set_other (fun h => hx (.inr h)), look_set_other (fun h => hx (.inl h))]
  refine ⟨fun x hx => other hx, fun g hg => ?_⟩
  have h1 := hg (.inf i) (touch_app.2 (.inl (touch_one.2 rfl)))
  have h2 := hg (.inf j) (touch_app.2 (.inr (touch_one.2 rfl)))
  have h3 : ∀ k, look g (.cell i k) = look h (.cell i k) := fun k => hg (.cell i k) (touch_app.2 (.inl (touch_one.2 rfl)))
  simp only [look, hn, Option.map_none, Option.map_eq_none_iff] at h2
  simp only [look, hi, Option.map_some, infOf] at h1
  cases hgi : g.get i with
  | none => rw [hgi] at h1; simp at h1
  | some o =>
    rw [hgi] at h1
    cases o <;> simp only [Option.map_some, Option.some.injEq, LV.inf.injEq, reduceCtorEq] at h1
    rename_i T2 cs2 ro2
    simp only [Inf.row.injEq] at h1
    obtain ⟨e1, e2, e3⟩ := h1
    subst e1 e3
    have hc : ∀ k, cs2.get k = cs.get k := fun k => by
      have := h3 k
      simp only [look, hi, hgi, Option.bind_some, cellOf] at this
      cases ha : cs2.get k <;> cases hb : cs.get k <;> rw [ha, hb] at this <;> simp at this
      rw [this]
    refine ⟨(g.set i .dead).set j (.row T2 (cs2.app new) false), by simp [Sx.growA, hgi, h2], fun x hx => ?_, fun x hx => other hx⟩
    obtain ⟨a1, a2⟩ := app_spec cs new
    obtain ⟨b1, b2⟩ := app_spec cs2 new
    rw [look_set (g.set i .dead) j, look_set (h.set i .dead) j]
    cases x with
    | cell m k =>
      simp only
      by_cases hm : m = j
      · rw [if_pos hm, if_pos hm]
        simp only [cellOf, a2, b2, e2, hc]
      · rw [if_neg hm, if_neg hm]
        have hx' := (wrote_app.1 hx).resolve_right (fun hw => by
          rcases row_wrote.1 hw with ⟨k', hk'⟩ | hk'
          · exact hm (by cases hk'; rfl)
          · cases hk')
        exact look_set_same hx'
    | inf m =>
      simp only
      by_cases hm : m = j
      · rw [if_pos hm, if_pos hm]
        simp only [infOf, a1, b1, e2]
      · rw [if_neg hm, if_neg hm]
        have hx' := (wrote_app.1 hx).resolve_right (fun hw => by
          rcases row_wrote.1 hw with ⟨k', hk'⟩ | hk'
          · cases hk'
          · exact hm (by cases hk'; rfl))
        exact look_set_same hx'
theorem Local.mapGet (i : Nat) : Local (mapGet i) := by
  intro c h r c' h' L hh
  have hh0 := hh
  obtain ⟨q1, q2, hi⟩ := mapGet_inv hh
  unfold Sx.mapGet at hh0
  rw [hi] at hh0
  cases hh0
  refine ⟨fun _ _ => rfl, fun g hg => ⟨g, ?_, fun x hx => ?_, fun _ _ => rfl⟩⟩
  · have h1 := hg (.inf i) (touch_one.2 rfl)
    simp only [look, hi, Option.map_some, infOf] at h1
    cases hgi : g.get i with
    | none => rw [hgi] at h1; simp at h1
    | some o =>
      rw [hgi] at h1
      cases o <;> simp only [Option.map_some, Option.some.injEq, LV.inf.injEq, reduceCtorEq] at h1
      simp only [Inf.map.injEq] at h1
      obtain ⟨e1, e2, e3⟩ := h1
      subst e1 e2 e3
      simp [Sx.mapGet, hgi]
  · have := wrote_one.1 hx
    cases x <;> simp [Ev.writes] at this
theorem Local.mapSet (i : Nat) (es : List (Value × Value)) (bs : List Nat) (clk : Nat) : Local (mapSet i es bs clk) := by
  intro c h u c' h' L hh
  unfold Sx.mapSet at hh
  split at hh
  · rename_i es0 bs0 clk0 hi
    cases hh
    refine ⟨fun x hx => look_set_other hx, fun g hg => ⟨g.set i (.map es bs clk), ?_, fun x hx => look_set_same hx, fun x hx => look_set_other hx⟩⟩
    have h1 := hg (.inf i) (touch_one.2 rfl)
    simp only [look, hi, Option.map_some, infOf] at h1
    cases hgi : g.get i with
    | none => rw [hgi] at h1; simp at h1
    | some o =>
      rw [hgi] at h1
      cases o <;> simp only [Option.map_some, Option.some.injEq, LV.inf.injEq, reduceCtorEq] at h1
      simp [Sx.mapSet, hgi]
  · cases hh
theorem Local.iterGet (i : Nat) : Local (iterGet i) := by
  intro c h r c' h' L hh
  have hh0 := hh
  obtain ⟨q1, q2, hi⟩ := iterGet_inv hh
  unfold Sx.iterGet at hh0
  rw [hi] at hh0
  cases hh0
  refine ⟨fun _ _ => rfl, fun g hg => ⟨g, ?_, fun x hx => ?_, fun _ _ => rfl⟩⟩
  · have h1 := hg (.inf i) (touch_one.2 rfl)
    simp only [look, hi, Option.map_some, infOf] at h1
    cases hgi : g.get i with
    | none => rw [hgi] at h1; simp at h1
    | some o =>
      rw [hgi] at h1
      cases o <;> simp only [Option.map_some, Option.some.injEq, LV.inf.injEq, reduceCtorEq] at h1
      simp only [Inf.iter.injEq] at h1
      obtain ⟨e1, e2, e3, e4⟩ := h1
      subst e1 e2 e3 e4
      simp [Sx.iterGet, hgi]
  · have := wrote_one.1 hx
    cases x <;> simp [Ev.writes] at this
theorem Local.iterSet (i : Nat) (m : Option Nat) (since : Nat) (seen : List Nat) (last : Nat) : Local (iterSet i m since seen last) := by
  intro c h u c' h' L hh
  unfold Sx.iterSet at hh
  split at hh
  · rename_i hi
    cases hh
    refine ⟨fun x hx => look_set_other hx, fun g hg => ⟨g.set i (.iter m since seen last), ?_, fun x hx => look_set_same hx, fun x hx => look_set_other hx⟩⟩
    have h1 := hg (.inf i) (touch_one.2 rfl)
    simp only [look, hi, Option.map_some, infOf] at h1
    cases hgi : g.get i with
    | none => rw [hgi] at h1; simp at h1
    | some o =>
      rw [hgi] at h1
      cases o <;> simp only [Option.map_some, Option.some.injEq, LV.inf.injEq, reduceCtorEq] at h1
      simp [Sx.iterSet, hgi]
  · cases hh
theorem Local.rdN (i : Nat) : ∀ (n o : Nat), Local (rdN i o n)
  | 0, _o => Local.pure []
  | n + 1, o => Local.bind (Local.rd i o) fun _ => Local.bind (Local.rdN i n (o + 1)) fun _ => Local.pure _
theorem Local.wrN (i : Nat) : ∀ (vs : List Value) (o : Nat), Local (wrN i o vs)
  | [], _o => Local.pure ()
  | v :: vs, o => Local.bind (Local.wr i o v) fun _ => Local.wrN i vs (o + 1)
theorem Local.rdB (i o n : Nat) : Local (rdB i o n) := by rw [rdB_eq]; exact Local.rdN i n o
theorem Local.wrB (i o : Nat) (vs : List Value) : Local (wrB i o vs) := by rw [wrB_eq]; exact Local.wrN i vs o
theorem Local.lpGet (i : Nat) : Local (lpGet i) := by
  intro c h r c' h' L hh
  have hh0 := hh
  obtain ⟨q1, q2, hi⟩ := lpGet_inv hh
  unfold Sx.lpGet at hh0
  rw [hi] at hh0
  cases hh0
  refine ⟨fun _ _ => rfl, fun g hg => ⟨g, ?_, fun x hx => ?_, fun _ _ => rfl⟩⟩
  · have h1 := hg (.inf i) (touch_one.2 rfl)
    simp only [look, hi, Option.map_some, infOf] at h1
    cases hgi : g.get i with
    | none => rw [hgi] at h1; simp at h1
    | some o =>
      rw [hgi] at h1
      cases o <;> simp only [Option.map_some, Option.some.injEq, LV.inf.injEq, reduceCtorEq] at h1
      simp only [Inf.loop.injEq] at h1
      obtain ⟨e1, e2, e3, e4, e5, e6, e7⟩ := h1
      subst e1 e2 e3 e4 e5 e6 e7
      simp [Sx.lpGet, hgi]
  · have := wrote_one.1 hx
    cases x <;> simp [Ev.writes] at this
theorem Local.lpSet (i : Nat) (st : LoopState) (pe : Option Code) : Local (lpSet i st pe) := by
  intro c h u c' h' L hh
  unfold Sx.lpSet at hh
  split at hh
  · rename_i st0 pe0 f ps a b d hi
    cases hh
    refine ⟨fun x hx => look_set_other hx, fun g hg => ⟨g.set i (.loop st pe f ps a b d), ?_, fun x hx => look_set_same hx, fun x hx => look_set_other hx⟩⟩
    have h1 := hg (.inf i) (touch_one.2 rfl)
    simp only [look, hi, Option.map_some, infOf] at h1
    cases hgi : g.get i with
    | none => rw [hgi] at h1; simp at h1
    | some o =>
      rw [hgi] at h1
      cases o <;> simp only [Option.map_some, Option.some.injEq, LV.inf.injEq, reduceCtorEq] at h1
      simp only [Inf.loop.injEq] at h1
      obtain ⟨e1, e2, e3, e4, e5, e6, e7⟩ := h1
      subst e1 e2 e3 e4 e5 e6 e7
      simp [Sx.lpSet, hgi]
  · cases hh
theorem Local.takeA (i : Nat) : Local (takeA i) := by
  intro c h u c' h' L hh
  unfold Sx.takeA at hh
  split at hh
  · rename_i hi
    cases hh
    refine ⟨fun x hx => look_set_other hx, fun g hg => ⟨g.set i .dead, ?_, fun x hx => look_set_same hx, fun x hx => look_set_other hx⟩⟩
    have h1 := hg (.inf i) (touch_one.2 rfl)
    simp only [look, hi, Option.map_some, infOf] at h1
    cases hgi : g.get i with
    | none => rw [hgi] at h1; simp at h1
    | some o =>
      rw [hgi] at h1
      cases o <;> simp only [Option.map_some, Option.some.injEq, LV.inf.injEq, reduceCtorEq] at h1
      simp [Sx.takeA, hgi]
  · cases hh
theorem Local.eval (f : Fr) (x : Operand) : Local (f.eval x) := by
  cases x with
  | tmp t => exact Local.opt _ _
  | const v =>
    simp only [Fr.eval]
    cases cleanB v
    · exact Local.bad _
    · exact Local.pure _
  | global g => exact Local.bad _
  | func g => exact Local.pure _
theorem Local.evalL (f : Fr) : ∀ (xs : List Operand), Local (evalL f xs)
  | [] => Local.pure _
  | x :: xs => Local.bind (Local.eval f x) fun _ => Local.bind (Local.evalL f xs) fun _ => Local.pure _
theorem Local.pairsL (f : Fr) : ∀ (xs : List (Nat × Operand)), Local (pairsL f xs)
  | [] => Local.pure _
  | (_, x) :: xs => Local.bind (Local.eval f x) fun _ => Local.bind (Local.pairsL f xs) fun _ => Local.pure _
theorem Local.evalO (f : Fr) : ∀ (x : Option Operand), Local (evalO f x)
  | none => Local.pure _
  | some x => Local.bind (Local.eval f x) fun _ => Local.pure _
theorem Local.loadA (P : Program) (t : TypeId) (a : Value) : Local (loadA P t a) := by
  unfold Sx.loadA
  split
  · refine Local.bind (Local.opt _ _) fun b => ?_
    cases b
    · exact Local.rd _ _
    · exact Local.bind (Local.opt _ _) fun _ => Local.bind (Local.rdB _ _ _) fun _ => Local.pure _
  · exact Local.bad _
theorem Local.storeA (P : Program) (t : TypeId) (a v : Value) : Local (storeA P t a v) := by
  unfold Sx.storeA
  split
  · exact Local.bind (Local.opt _ _) fun _ => Local.bind (Local.guard _ _) fun _ => Local.wrB _ _ _
  · exact Local.bad _
theorem Local.newRowA (T : TypeId) (cs : List Value) : Local (newRowA T cs) := Local.bind (Local.guard _ _) fun _ => Local.bind (Local.newA _) fun _ => Local.pure _
theorem Local.buildSliceA (P : Program) (t : TypeId) (n : Nat) (ps : List (Nat × Value)) : Local (buildSliceA P t n ps) :=
  Local.bind (Local.opt _ _) fun _ => Local.bind (Local.opt _ _) fun _ => Local.bind (Local.guard _ _) fun _ => Local.bind (Local.opt _ _) fun _ => Local.bind (Local.guard _ _) fun _ => Local.bind (Local.opt _ _) fun _ =>
    Local.bind (Local.guard _ _) fun _ => Local.bind (Local.newA _) fun _ => Local.pure _
theorem Local.srcCells (n s : Nat) (x : Value) : Local (srcCells n s x) := by
  unfold Sx.srcCells
  split
  · exact Local.rdB _ _ _
  · exact Local.pure _
  · rename_i b
    cases Nat.beq s 1
    · exact Local.bad _
    · exact Local.pure _
  · exact Local.bad _
theorem Local.ite {α : Type} {b : Bool} {x y : M α} (hx : Local x) (hy : Local y) : Local (bif b then x else y) := by cases b; exact hy; exact hx
theorem Local.appendA (P : Program) (ats : List TypeId) (args : List Value) : Local (appendA P ats args) := by
  unfold Sx.appendA
  split
  · refine Local.bind (Local.opt _ _) fun _ => Local.bind (Local.opt _ _) fun _ => Local.bind (Local.opt _ _) fun _ => Local.bind (Local.opt _ _) fun _ => Local.bind (Local.guard _ _) fun _ => Local.bind (Local.opt _ _) fun _ => ?_
    refine Local.ite (Local.pure _) (Local.bind (Local.guard _ _) fun _ => Local.bind (Local.srcCells _ _ _) fun _ => Local.bind (Local.guard _ _) fun _ => ?_)
    split
    · exact Local.bind (Local.newA _) fun _ => Local.pure _
    · refine Local.ite (Local.ite (Local.bind (Local.wrB _ _ _) fun _ => Local.pure _) (Local.bind (Local.rdB _ _ _) fun _ => Local.bind (Local.guard _ _) fun _ => Local.bind (Local.newA _) fun _ => Local.pure _)) ?_
      refine Local.bind (Local.info _) fun x => ?_
      refine Local.ite (Local.bind (Local.wrB _ _ _) fun _ => Local.pure _) ?_
      exact Local.bind (Local.guard _ _) fun _ => Local.ite (Local.bind (Local.growA _ _ _) fun _ => Local.pure _) (Local.bind (Local.rdB _ _ _) fun _ => Local.bind (Local.guard _ _) fun _ => Local.bind (Local.killA _) fun _ => Local.bind (Local.newA _) fun _ => Local.pure _)
    · exact Local.bad _
  · exact Local.bad _
theorem Local.copyA (P : Program) (ats : List TypeId) (args : List Value) : Local (copyA P ats args) := by
  unfold Sx.copyA
  split
  · refine Local.bind (Local.opt _ _) fun _ => Local.bind (Local.opt _ _) fun _ => Local.bind (Local.opt _ _) fun _ => Local.bind (Local.srcCells _ _ _) fun _ => ?_
    split
    · exact Local.pure _
    · exact Local.bind (Local.wrB _ _ _) fun _ => Local.pure _
    · exact Local.bad _
  · exact Local.bad _
theorem Local.makeSliceA (P : Program) (t : TypeId) (l c : Value) : Local (makeSliceA P t l c) := by
  unfold Sx.makeSliceA
  split
  · refine Local.bind (Local.opt _ _) fun _ => Local.bind (Local.opt _ _) fun _ => Local.bind (Local.opt _ _) fun _ => Local.bind (Local.guard _ _) fun _ => Local.bind (Local.opt _ _) fun _ => Local.bind (Local.guard _ _) fun _ =>
      Local.bind (Local.newRowA _ _) fun _ => ?_
    split
    · exact Local.pure _
    · exact Local.bad _
  · exact Local.bad _
theorem Local.lookupA (P : Program) (t : TypeId) (x k : Value) (ok : Bool) : Local (lookupA P t x k ok) := by
  unfold Sx.lookupA
  refine Local.bind (Local.opt _ _) fun _ => Local.bind (Local.guard _ _) fun _ => Local.bind (Local.opt _ _) fun _ => Local.bind (Local.guard _ _) fun _ => Local.bind ?_ fun mp => ?_
  · split
    · exact Local.pure _
    · exact Local.mapGet _
    · exact Local.bad _
  · split
    · split
      · exact Local.pure _
      · exact Local.bad _
    · exact Local.pure _
    · exact Local.bad _
theorem Local.mapUpdateA (P : Program) (t : TypeId) (x k v : Value) : Local (mapUpdateA P t x k v) := by
  unfold Sx.mapUpdateA
  refine Local.bind (Local.opt _ _) fun _ => Local.bind (Local.guard _ _) fun _ => ?_
  split
  · refine Local.bind (Local.mapGet _) fun _ => ?_
    split
    · exact Local.mapSet _ _ _ _
    · exact Local.mapSet _ _ _ _
    · exact Local.bad _
  · exact Local.bad _
theorem Local.deleteA (P : Program) (t : TypeId) (x k : Value) : Local (deleteA P t x k) := by
  unfold Sx.deleteA
  refine Local.bind (Local.opt _ _) fun _ => Local.bind (Local.guard _ _) fun _ => ?_
  split
  · exact Local.pure _
  · refine Local.bind (Local.mapGet _) fun _ => ?_
    split
    · exact Local.mapSet _ _ _ _
    · exact Local.mapSet _ _ _ _
    · exact Local.bad _
  · exact Local.bad _
theorem Local.rangeM (x : Value) : Local (rangeM x) := by
  unfold Sx.rangeM
  split
  · exact Local.bind (Local.newA _) fun _ => Local.pure _
  · exact Local.bind (Local.mapGet _) fun _ => Local.bind (Local.newA _) fun _ => Local.pure _
  · exact Local.bad _
theorem Local.nextA (r : Nat) : Local (nextA r) := by
  refine Local.bind (Local.iterGet _) fun it => ?_
  split
  · exact Local.pure _
  · refine Local.bind (Local.mapGet _) fun _ => Local.bind (Local.guard _ _) fun _ => ?_
    split
    · exact Local.pure _
    · exact Local.bind (Local.iterSet _ _ _ _ _) fun _ => Local.pure _
    · exact Local.bad _
theorem Local.entryA (r : Nat) : Local (entryA r) := by
  refine Local.bind (Local.iterGet _) fun it => ?_
  split
  · refine Local.bind (Local.mapGet _) fun _ => Local.bind (Local.guard _ _) fun _ => ?_
    split
    · exact Local.pure _
    · exact Local.bad _
  · exact Local.bad _
theorem Local.clearA (P : Program) (t : TypeId) (x : Value) : Local (clearA P t x) := by
  unfold Sx.clearA
  split
  · exact Local.bind (Local.opt _ _) fun _ => Local.pure _
  · exact Local.bind (Local.opt _ _) fun _ => Local.bind (Local.mapGet _) fun _ => Local.bind (Local.mapSet _ _ _ _) fun _ => Local.pure _
  · exact Local.bind (Local.opt _ _) fun _ => Local.bind (Local.opt _ _) fun _ => Local.bind (Local.guard _ _) fun _ => Local.bind (Local.wrB _ _ _) fun _ => Local.pure _
  · exact Local.bad _
theorem Local.lenBuiltin (P : Program) (t : TypeId) (x : Value) : Local (lenBuiltin P t x) := by
  unfold Sx.lenBuiltin
  split
  · split
    · exact Local.pure _
    · exact Local.bad _
  · exact Local.pure _
  · split
    · exact Local.pure _
    · exact Local.bad _
  · split
    · exact Local.pure _
    · exact Local.bind (Local.mapGet _) fun _ => Local.pure _
    · exact Local.bad _
  · exact Local.bad _
theorem Local.binA [Asm] (P : Program) (op : BinOp) (t : TypeId) (a b : Value) : Local (binA P op t a b) := by
  unfold Sx.binA
  refine Local.ite (Local.bind (Local.guard _ _) fun _ => Local.opt _ _) (Local.ite (Local.opt _ _) ?_)
  split
  · exact Local.bind (Local.opt _ _) fun _ => Local.pure _
  · exact Local.bind (Local.opt _ _) fun _ => Local.pure _
  · exact Local.bad _
theorem match_look {o x y : AObj} (hm : matchO o x = true) (hi : infOf y = infOf x) (hc : ∀ k, cellOf y k = cellOf x k) : matchO o y = true := by
  cases o with
  | row T cs ro =>
    cases cs with
    | blk t n => cases x <;> cases hm
    | lst l =>
      cases x <;> simp only [matchO, Bool.false_eq_true] at hm
      rename_i T' cs' ro'
      cases y <;> simp only [infOf, reduceCtorEq, Inf.row.injEq] at hi
      rename_i T2 cs2 ro2
      obtain ⟨h1, h2, h3⟩ := hi
      subst h1 h3
      simp only [matchO, Bool.and_eq_true] at hm ⊢
      refine ⟨hm.1, ?_⟩
      have hg : ∀ k, cs2.get k = cs'.get k := hc
      have key : ∀ (l : List Value) (k : Nat), cellsIs cs' k l = true → cellsIs cs2 k l = true := by
        intro l
        induction l with
        | nil => intro k _; rfl
        | cons v l ih =>
          intro k h
          simp only [cellsIs, Bool.and_eq_true] at h ⊢
          exact ⟨by rw [hg]; exact h.1, ih _ h.2⟩
      exact key l 0 hm.2
  | orow T j ro =>
    cases x <;> simp only [matchO, Bool.false_eq_true] at hm
    cases y <;> simp only [infOf, reduceCtorEq, Inf.orow.injEq] at hi
    obtain ⟨h1, h2, h3⟩ := hi
    subst h1 h2 h3
    exact hm
  | map es bs clk => cases x <;> cases hm
  | iter m s l k => cases x <;> cases hm
  | loop _ _ _ _ _ _ _ => cases x <;> cases hm
  | defd => cases x <;> cases hm
  | dead => cases x <;> cases hm
theorem look_obj {h g : Heap} {i : Nat} {x : AObj} (hx : h.get i = some x) (h1 : look g (.inf i) = look h (.inf i)) (h2 : ∀ k, look g (.cell i k) = look h (.cell i k)) : ∃ y, g.get i = some y ∧ infOf y = infOf x ∧ ∀ k, cellOf y k = cellOf x k := by
  simp only [look, hx, Option.map_some] at h1
  cases hg : g.get i with
  | none => rw [hg] at h1; simp at h1
  | some y =>
    rw [hg] at h1
    simp only [Option.map_some, Option.some.injEq, LV.inf.injEq] at h1
    refine ⟨y, rfl, h1, fun k => ?_⟩
    have := h2 k
    simp only [look, hx, hg, Option.bind_some] at this
    cases hc : cellOf x k with
    | none =>
      rw [hc] at this
      cases hc' : cellOf y k with
      | none => rfl
      | some v' => rw [hc'] at this; simp at this
    | some v =>
      rw [hc] at this
      cases hc' : cellOf y k with
      | none => rw [hc'] at this; simp at this
      | some v' => rw [hc'] at this; simp only [Option.map_some, Option.some.injEq, LV.val.injEq] at this; rw [this]
theorem Local.swapA (a : Nat) (o o' : AObj) : Local (swapA a o o') := by
  intro c h u c' h' L hh
  unfold Sx.swapA at hh
  split at hh
  · rename_i x hx
    cases hm : matchO o x with
    | false => rw [hm] at hh; cases hh
    | true =>
      rw [hm] at hh
      cases hh
      refine ⟨fun y hy => look_set_other hy, fun g hg => ⟨g.set a o', ?_, fun y hy => look_set_same hy, fun y hy => look_set_other hy⟩⟩
      obtain ⟨y, k1, k2, k3⟩ := look_obj hx (hg (.inf a) (touch_one.2 rfl)) (fun k => hg (.cell a k) (touch_one.2 rfl))
      simp [Sx.swapA, k1, match_look hm k2 k3]
  · cases hh
theorem Local.seeA (a : Nat) (o : AObj) : Local (seeA a o) := by
  intro c h u c' h' L hh
  unfold Sx.seeA at hh
  split at hh
  · rename_i x hx
    cases hm : matchO o x with
    | false => rw [hm] at hh; cases hh
    | true =>
      rw [hm] at hh
      cases hh
      refine ⟨fun _ _ => rfl, fun g hg => ⟨g, ?_, fun y hy => ?_, fun _ _ => rfl⟩⟩
      · obtain ⟨y, k1, k2, k3⟩ := look_obj hx (hg (.inf a) (touch_one.2 rfl)) (fun k => hg (.cell a k) (touch_one.2 rfl))
        simp [Sx.seeA, k1, match_look hm k2 k3]
      · have := wrote_one.1 hy
        cases y <;> simp [Ev.writes] at this
  · cases hh
theorem Local.liveA (a : Nat) : Local (liveA a) := by
  intro c h u c' h' L hh
  unfold Sx.liveA at hh
  split at hh
  · rename_i x hx
    cases hh
    refine ⟨fun _ _ => rfl, fun g hg => ⟨g, ?_, fun y hy => ?_, fun _ _ => rfl⟩⟩
    · obtain ⟨y, k1, k2, k3⟩ := look_obj hx (hg (.inf a) (touch_one.2 rfl)) (fun k => hg (.cell a k) (touch_one.2 rfl))
      simp [Sx.liveA, k1]
    · have := wrote_one.1 hy
      cases y <;> simp [Ev.writes] at this
  · cases hh
theorem Local.hidsM : ∀ l, Local (hidsM l)
  | [] => Local.pure _
  | _ :: l => Local.bind (Local.liveA _) fun _ => Local.hidsM l
theorem Local.footsM : ∀ fs, Local (footsM fs)
  | [] => Local.pure _
  | f :: fs => by
    refine Local.bind ?_ fun _ => Local.footsM fs
    cases f.ro with
    | true => exact Local.seeA _ _
    | false => exact Local.swapA _ _ _
theorem Local.newsM : ∀ (l : HL) (k : Nat), Local (newsM k l)
  | [], _ => Local.pure _
  | (_, _) :: l, k => Local.bind (Local.newA _) fun _ => Local.bind (Local.guard _ _) fun _ => Local.newsM l (k + 1)
theorem Local.runE (e : Entry) : Local (runE e) := Local.bind (Local.hidsM _) fun _ => Local.bind (Local.footsM _) fun _ => Local.bind (Local.newsM _ _) fun _ => Local.pure _
theorem Local.orc (es : List Entry) (args : List Value) : Local (orc es args) := by
  intro c h a c' h' L hh
  unfold Sx.orc at hh
  cases hf : findE args c es with
  | none => rw [hf] at hh; cases hh
  | some e =>
    rw [hf] at hh
    obtain ⟨h1, h2⟩ := Local.runE e c h a c' h' L hh
    refine ⟨h1, fun g hg => ?_⟩
    obtain ⟨g', k1, k2⟩ := h2 g hg
    exact ⟨g', by unfold Sx.orc; rw [hf]; exact k1, k2⟩

theorem Local.appX [Asm] (ats : List TypeId) (args : List Value) : Local (appX ats args) := by
  intro c h a c' h' L hh
  unfold Sx.appX at hh
  cases hf : findApp ats args c Asm.apps with
  | none => rw [hf] at hh; cases hh
  | some e =>
    rw [hf] at hh
    obtain ⟨h1, h2⟩ := Local.runE e c h a c' h' L hh
    refine ⟨h1, fun g hg => ?_⟩
    obtain ⟨g', k1, k2⟩ := h2 g hg
    exact ⟨g', by unfold Sx.appX; rw [hf]; exact k1, k2⟩
theorem Local.loadX [Asm] (t k : Nat) : Local (loadX t k) := by
  intro c h u c' h' L hh
  unfold Sx.loadX at hh
  cases hf : findLd t k Asm.lds with
  | none =>
    rw [hf] at hh
    obtain ⟨h1, h2⟩ := Local.appX [t, 1000000] [.chan (some k)] c h u c' h' L hh
    refine ⟨h1, fun g hg => ?_⟩
    obtain ⟨g', k1, k2⟩ := h2 g hg
    exact ⟨g', by unfold Sx.loadX; rw [hf]; exact k1, k2⟩
  | some e =>
    rw [hf] at hh
    simp only at hh
    split at hh
    · rename_i T j ro hx
      cases hb : Nat.beq j e.j with
      | false => rw [hb] at hh; cases hh
      | true =>
        rw [hb] at hh
        cases hh
        refine ⟨fun _ _ => rfl, fun g hg => ⟨g, ?_, fun y hy => ?_, fun _ _ => rfl⟩⟩
        · obtain ⟨y, k1, k2, k3⟩ := look_obj hx (hg (.inf e.id) (touch_one.2 rfl)) (fun k => hg (.cell e.id k) (touch_one.2 rfl))
          cases y <;> simp only [infOf, reduceCtorEq, Inf.orow.injEq] at k2
          obtain ⟨e1, e2, e3⟩ := k2
          subst e1 e2 e3
          simp [Sx.loadX, hf, k1, hb]
        · have := wrote_one.1 hy
          cases y <;> simp [Ev.writes] at this
    · cases hh
theorem Local.storeX [Asm] (P : Program) (t : TypeId) (a v : Value) : Local (storeX P t a v) := by
  unfold Sx.storeX
  split
  · exact Local.bind (Local.appX _ _) fun _ => Local.pure _
  · exact Local.storeA _ _ _ _
theorem Local.builtinA [Asm] (P : Program) (b : Builtin) (ats : Array TypeId) (args : List Value) : Local (builtinA P b ats args) := by
  unfold Sx.builtinA
  split
  · exact Local.ite (Local.ite (Local.bad _) (Local.appX _ _)) (Local.appendA _ _ _)
  · split
    · split
      · exact Local.ite (Local.opt _ _) (Local.lenBuiltin _ _ _)
      · exact Local.bad _
    · exact Local.bad _
  · split
    · split
      · exact Local.bind (Local.deleteA _ _ _ _) fun _ => Local.pure _
      · exact Local.bad _
    · exact Local.bad _
  · exact Local.copyA _ _ _
  · split
    · split
      · exact Local.clearA _ _ _
      · exact Local.bad _
    · exact Local.bad _
  · split
    · exact Local.opt _ _
    · exact Local.bad _
  · split
    · exact Local.opt _ _
    · exact Local.bad _
  · exact Local.bad _

structure RecLocal (r : Rec) : Prop where
  exec : ∀ c f, Local (r.exec c f)
  call : ∀ g args, Local (r.call g args)

theorem Local.yieldA {r : Rec} (hr : RecLocal r) (l : Nat) (args : List Value) : Local (yieldA r l args) := by
  unfold Sx.yieldA
  refine Local.bind (Local.lpGet _) fun _ => Local.bind (Local.guard _ _) fun _ => Local.bind (hr.exec _ _) fun x => ?_
  obtain ⟨e, f1⟩ := x
  simp only
  split
  · refine Local.bind (Local.lpGet _) fun _ => ?_
    split
    · refine Local.bind (Local.lpSet _ _ _) fun _ => Local.bind (hr.exec _ _) fun z => ?_
      obtain ⟨e2, f2⟩ := z
      simp only
      split
      · exact Local.bind (Local.lpSet _ _ _) fun _ => Local.pure _
      · exact Local.bind (Local.lpSet _ _ _) fun _ => Local.pure _
      · exact Local.bad _
    · exact Local.bad _
  · exact Local.bad _
theorem Local.callV {r : Rec} (hr : RecLocal r) (v : Value) (args : List Value) : Local (callV r v args) := by
  unfold Sx.callV
  split
  · exact hr.call _ _
  · exact Local.ite (Local.yieldA hr _ _) (Local.bad _)
  · exact Local.bad _
theorem Local.callF {r : Rec} (hr : RecLocal r) (v : Value) (args : List Value) : Local (callF r v args) := by
  unfold Sx.callF
  split
  · exact hr.call _ _
  · exact Local.bad _
theorem Local.enterA (f : Fr) : Local (enterA f) := by
  unfold Sx.enterA
  split
  · exact Local.bind (Local.newA _) fun _ => Local.pure _
  · exact Local.bind (Local.lpGet _) fun _ => Local.pure _
theorem Local.rangeA {r : Rec} (hr : RecLocal r) (g : Value) (ps : List Tmp) (a b : Code) (f : Fr) : Local (rangeA r g ps a b f) := by
  unfold Sx.rangeA
  refine Local.bind (Local.enterA f) fun x => ?_
  obtain ⟨d, mark⟩ := x
  refine Local.bind (Local.newA _) fun _ => Local.bind (Local.callF hr _ _) fun _ => Local.bind (Local.lpGet _) fun _ => ?_
  split
  · exact Local.bad _
  · refine Local.bind (Local.lpSet _ _ _) fun _ => ?_
    split
    · exact Local.pure _
    · exact hr.exec _ _
theorem Local.sliceX (P : Program) (t : TypeId) (x : Value) (lo hi mx : Option Value) : Local (sliceX P t x lo hi mx) := by
  unfold Sx.sliceX
  split
  · exact Local.bind (Local.opt _ _) fun _ => Local.bind (Local.opt _ _) fun _ => Local.bind (Local.info _) fun _ => Local.bind (Local.opt _ _) fun _ => Local.bind (Local.opt _ _) fun _ => Local.bind (Local.guard _ _) fun _ => Local.pure _
  · exact Local.bad _
theorem Local.convM (P : Program) (s d : TypeId) (v : Value) : Local (convM P s d v) := by
  unfold Sx.convM
  split
  · exact Local.bind (Local.opt _ _) fun _ => Local.bind (Local.guard _ _) fun _ => Local.bind (Local.newA _) fun _ => Local.pure _
  · refine Local.ite (Local.bind (Local.opt _ _) fun _ => Local.bind (Local.rdB _ _ _) fun _ => Local.bind (Local.opt _ _) fun _ => Local.pure _) ?_
    exact Local.bind (Local.opt _ _) fun _ => Local.bind (Local.guard _ _) fun _ => Local.bind (Local.bind (Local.info _) fun _ => Local.guard _ _) fun _ => Local.pure _
  · exact Local.bind (Local.guard _ _) fun _ => Local.bind (Local.opt _ _) fun _ => Local.pure _
  · exact Local.bad _
theorem Local.opA [Asm] {P : Program} {r : Rec} (hr : RecLocal r) (f : Fr) (o : Oper) : Local (opA P r f o) := by
  unfold Sx.opA
  generalize o.op = op
  cases op <;> (try dsimp only [oPick, oAlloc, oBox, oBuild, oBuildSlice, oLoad, oStore, oNilCheck, oBinOp, oUnOp, oConvert, oMakeFunc, oSliceToArrayPointer, oMakeSlice, oSlice, oFieldAddr, oField, oIndexAddr, oIndex, oLookup, oMapUpdate, oInsert, oExtract, oCall])
  case move x => exact Local.eval f x
  case assign x => exact Local.eval f x
  case pick c a b =>
    refine Local.bind (Local.eval f _) fun v => Local.bind (Local.eval f _) fun x => Local.bind (Local.eval f _) fun y => ?_
    cases truth v <;> first | exact Local.bad _ | exact Local.pure _
  case alloc => exact Local.bind (Local.opt _ _) fun _ => Local.bind (Local.guard _ _) fun _ => Local.newRowA _ _
  case box => exact Local.bind (Local.eval f _) fun _ => Local.newRowA _ _
  case build => exact Local.bind (Local.pairsL f _) fun _ => Local.opt _ _
  case buildSlice => exact Local.bind (Local.pairsL f _) fun _ => Local.buildSliceA _ _ _ _
  case load =>
    refine Local.bind (Local.eval f _) fun v => ?_
    split
    · exact Local.loadX _ _
    · exact Local.loadA _ _ _
  case store => exact Local.bind (Local.eval f _) fun _ => Local.bind (Local.eval f _) fun _ => Local.bind (Local.storeX _ _ _ _) fun _ => Local.pure _
  case nilCheck =>
    refine Local.bind (Local.eval f _) fun v => ?_
    split
    · exact Local.pure _
    · exact Local.pure _
    · exact Local.bad _
  case binOp => exact Local.bind (Local.eval f _) fun _ => Local.bind (Local.eval f _) fun _ => Local.ite (Local.opt _ _) (Local.binA _ _ _ _ _)
  case typeAssert x xt t ok =>
    refine Local.bind (Local.eval f _) fun v => ?_
    split
    · exact Local.bind (Local.opt _ _) fun _ => Local.bind (Local.guard _ _) fun _ => Local.pure _
    · exact Local.bad _
  case range => exact Local.bind (Local.eval f _) fun _ => Local.bind (Local.opt _ _) fun _ => Local.rangeM _
  case next =>
    refine Local.bind (Local.eval f _) fun v => ?_
    split
    · exact Local.nextA _
    · exact Local.bad _
  case entry =>
    refine Local.bind (Local.eval f _) fun v => ?_
    split
    · exact Local.entryA _
    · exact Local.bad _
  case unOp => exact Local.bind (Local.eval f _) fun _ => Local.ite (Local.opt _ _) (Local.opt _ _)
  case convert => exact Local.bind (Local.eval f _) fun _ => Local.ite (Local.opt _ _) (Local.ite (Local.convM _ _ _ _) (Local.opt _ _))
  case makeFunc g a b =>
    refine Local.bind (Local.evalL f _) fun _ => Local.bind (Local.evalL f _) fun _ => ?_
    cases g <;> first | exact Local.pure _ | exact Local.bad _
  case makeMap t x =>
    cases x
    · exact Local.bind (Local.newA _) fun _ => Local.pure _
    · exact Local.bad _
  case makeSlice => exact Local.bind (Local.eval f _) fun _ => Local.bind (Local.eval f _) fun _ => Local.makeSliceA _ _ _ _
  case sliceToArrayPointer => exact Local.bind (Local.eval f _) fun _ => Local.opt _ _
  case slice => exact Local.bind (Local.eval f _) fun _ => Local.bind (Local.evalO f _) fun _ => Local.bind (Local.evalO f _) fun _ => Local.bind (Local.evalO f _) fun _ => Local.ite (Local.opt _ _) (Local.sliceX _ _ _ _ _ _)
  case fieldAddr => exact Local.bind (Local.eval f _) fun _ => Local.opt _ _
  case field => exact Local.bind (Local.eval f _) fun _ => Local.opt _ _
  case indexAddr => exact Local.bind (Local.eval f _) fun _ => Local.bind (Local.eval f _) fun _ => Local.opt _ _
  case index => exact Local.bind (Local.eval f _) fun _ => Local.bind (Local.eval f _) fun _ => Local.opt _ _
  case lookup => exact Local.bind (Local.eval f _) fun _ => Local.bind (Local.eval f _) fun _ => Local.lookupA _ _ _ _ _
  case mapUpdate => exact Local.bind (Local.eval f _) fun _ => Local.bind (Local.eval f _) fun _ => Local.bind (Local.eval f _) fun _ => Local.bind (Local.mapUpdateA _ _ _ _ _) fun _ => Local.pure _
  case insert => exact Local.bind (Local.eval f _) fun _ => Local.bind (Local.eval f _) fun _ => Local.bind (Local.eval f _) fun _ => Local.bind (Local.mapUpdateA _ _ _ _ _) fun _ => Local.pure _
  case extract =>
    refine Local.bind (Local.eval f _) fun v => ?_
    cases v <;> first | exact Local.bad _ | exact Local.opt _ _
  case call c =>
    generalize c.callee = ce
    cases ce <;> (try dsimp only)
    · refine Local.bind (Local.eval f _) fun v => Local.bind (Local.evalL f _) fun args => ?_
      exact Local.callV hr _ _
    · exact Local.bad _
    · exact Local.bind (Local.evalL f _) fun _ => Local.builtinA _ _ _ _
  all_goals exact Local.bad _
theorem Local.stepV [Asm] {P : Program} {r : Rec} (hr : RecLocal r) (ops : Array Oper) (o : Oper) (f : Fr) : Local (stepV P r ops o f) := by
  unfold Sx.stepV
  split
  · exact Local.ite (Local.opA hr f o) (Local.pure _)
  · exact Local.bad _
theorem Local.deferA (f : Fr) (c : Call) : Local (deferA f c) := by
  unfold Sx.deferA
  split
  · refine Local.bind (Local.eval f _) fun _ => Local.bind (Local.evalL f _) fun _ => ?_
    split
    · exact Local.pure _
    · exact Local.bad _
  · exact Local.bad _
theorem Local.stepD (o : Oper) (c : Call) (f : Fr) : Local (stepD o c f) := by
  unfold Sx.stepD
  split
  · exact Local.bind (Local.deferA f c) fun _ => Local.pure _
  · exact Local.bad _
theorem Local.stepN [Asm] {P : Program} {r : Rec} (hr : RecLocal r) (ops : Array Oper) (o : Oper) (f : Fr) : Local (stepN P r ops o f) := Local.bind (Local.stepV hr ops o f) fun _ => Local.pure _
theorem Local.stepA [Asm] {P : Program} {r : Rec} (hr : RecLocal r) (ops : Array Oper) (o : Oper) (f : Fr) : Local (stepA P r ops o f) := by
  unfold Sx.stepA
  split
  · exact Local.stepD _ _ _
  · exact Local.stepN hr _ _ _
theorem Local.regionL [Asm] {P : Program} {r : Rec} (hr : RecLocal r) (ops : Array Oper) : ∀ (l : List Oper) (f : Fr), Local (regionL P r ops l f)
  | [], f => Local.pure f
  | o :: l, f => Local.bind (Local.stepA hr ops o f) fun f' => Local.regionL hr ops l f'
theorem Local.regionD [Asm] {P : Program} {r : Rec} (hr : RecLocal r) (ops : Array Oper) : ∀ (l : List Oper) (st : List (List Nat)) (logs : List Lg) (f : Fr), Local (regionD P r ops l st logs f)
  | [], _, _, f => Local.pure f
  | o :: l, _st, _logs, f => Local.bindL (Local.stepV hr ops o f) fun _v _l' => Local.ite (Local.bad _) (Local.regionD hr ops l _ _ _)
theorem Local.regionA [Asm] {P : Program} {r : Rec} (hr : RecLocal r) (ops : Array Oper) (d : Bool) (f : Fr) : Local (regionA P r ops d f) := by
  unfold Sx.regionA
  refine Local.ite ?_ (Local.regionL hr ops _ f)
  split
  · exact Local.bad _
  · exact Local.regionD hr ops _ _ _ _
theorem Local.resA (P : Program) (f : Fr) : ∀ (rs : List ResultVar), Local (resA P f rs)
  | [] => Local.pure _
  | .tmp _ :: rs => Local.bind (Local.opt _ _) fun _ => Local.bind (Local.resA P f rs) fun _ => Local.pure _
  | .cell _ _ :: rs => Local.bind (Local.opt _ _) fun _ => Local.bind (Local.loadA _ _ _) fun _ => Local.bind (Local.resA P f rs) fun _ => Local.pure _
theorem Local.resultsA (P : Program) (fn : Func) (f : Fr) : Local (resultsA P fn f) := by
  refine Local.bind (Local.resA P f _) fun vs => ?_
  split <;> exact Local.pure _
theorem Local.execS [Asm] {P : Program} {r : Rec} (hr : RecLocal r) (c : Code) (f : Fr) : Local (execS P r c f) := by
  cases c <;> simp only [Sx.execS]
  case skip => exact Local.pure _
  case label => exact Local.pure _
  case region => exact Local.bind (Local.regionA hr _ _ _) fun _ => Local.pure _
  case seq a b =>
    refine Local.bind (hr.exec _ _) fun x => ?_
    split
    · exact hr.exec _ _
    · exact Local.pure _
  case cond =>
    refine Local.bind (Local.eval f _) fun v => ?_
    split
    · exact Local.ite (hr.exec _ _) (hr.exec _ _)
    · exact Local.bad _
  case block =>
    refine Local.bind (hr.exec _ _) fun x => ?_
    split <;> exact Local.pure _
  case loop =>
    refine Local.bind (hr.exec _ _) fun x => ?_
    split
    · exact hr.exec _ _
    · exact Local.pure _
  case exit => exact Local.pure _
  case ret => exact Local.pure _
  case scope =>
    refine Local.bind (hr.exec _ _) fun x => ?_
    split
    · exact Local.bad _
    · exact Local.pure _
  case rangeFunc => exact Local.bind (Local.eval f _) fun _ => Local.rangeA hr _ _ _ _ _
  all_goals exact Local.bad _
theorem Local.execR [Asm] {P : Program} {r : Rec} (hr : RecLocal r) : ∀ (c : Code) (f : Fr), Local (execR P r c f)
  | .seq a b, f => by
    refine Local.bind (Local.execR hr a f) fun x => ?_
    split
    · exact hr.exec _ _
    · exact Local.pure _
  | .region id ops draw, f => by
    simp only [Sx.execR]
    split
    · exact Local.bind (Local.regionL hr _ _ _) fun _ => Local.pure _
    · exact hr.exec _ _
  | .skip, f => hr.exec _ _
  | .cond _ _ _, f => hr.exec _ _
  | .block _ _, f => hr.exec _ _
  | .loop _, f => hr.exec _ _
  | .rangeFunc _ _ _ _, f => hr.exec _ _
  | .exit _, f => hr.exec _ _
  | .scope _, f => hr.exec _ _
  | .label _, f => hr.exec _ _
  | .goto _, f => hr.exec _ _
  | .ret, f => hr.exec _ _
  | .refuse _, f => hr.exec _ _
theorem Local.endD (P : Program) (fn : Func) (f : Fr) : Local (endD P fn f) := by
  unfold Sx.endD
  split
  · exact Local.bind (Local.resultsA _ _ _) fun _ => Local.pure _
  · exact Local.bad _
theorem Local.callD [Asm] {P : Program} {r : Rec} (hr : RecLocal r) (g : FuncId) (args : List Value) : Local (callD P r g args) := by
  unfold Sx.callD
  split
  · exact Local.bad _
  · refine Local.ite (Local.bad _) ?_
    split
    · exact Local.bad _
    · refine Local.bind (Local.execR hr _ _) fun x => ?_
      split
      · exact Local.endD _ _ _
      · exact Local.endD _ _ _
      · exact Local.bad _
theorem Local.leave [Asm] {P : Program} {r : Rec} (hr : RecLocal r) : ∀ (ds : List Df), Local (leave P r ds)
  | [] => Local.pure ()
  | .mark _ :: ds => Local.bind (Local.takeA _) fun _ => Local.leave hr ds
  | .call _ _ _ :: ds => Local.bind (Local.callD hr _ _) fun _ => Local.leave hr ds
theorem Local.callS [Asm] {P : Program} {tbl : Tbl} {r : Rec} (hr : RecLocal r) (ht : ∀ g m args, tbl g = some m → Local (m args)) (g : FuncId) (args : List Value) : Local (callS P tbl r g args) := by
  unfold Sx.callS
  split
  · rename_i m hm; exact ht g m args hm
  · split
    · exact Local.bad _
    · refine Local.ite (Local.bad _) ?_
      split
      · exact Local.bad _
      · refine Local.bind (hr.exec _ _) fun x => ?_
        split
        · exact Local.bind (Local.leave hr _) fun _ => Local.resultsA _ _ _
        · exact Local.bind (Local.leave hr _) fun _ => Local.resultsA _ _ _
        · exact Local.bad _
theorem recLocal [Asm] (P : Program) (tbl : Tbl) (ht : ∀ g m args, tbl g = some m → Local (m args)) : ∀ n, RecLocal (rec P tbl n)
  | 0 => ⟨fun _ _ => Local.bad _, fun _ _ => Local.bad _⟩
  | n + 1 => ⟨fun c f => Local.execS (recLocal P tbl ht n) c f, fun g args => Local.callS (recLocal P tbl ht n) ht g args⟩
end Go.Sx

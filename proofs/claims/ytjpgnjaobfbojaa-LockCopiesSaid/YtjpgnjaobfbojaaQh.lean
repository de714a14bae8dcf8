import Derived.Test.YtjpgnjaobfbojaaQg
namespace Go.Proofs.Ytjpgnjaobfbojaa
open Go.Sx
theorem next_nil (s : St) : MC 94 [] { s with wt := 0, line := [] } { s with wt := 0, line := [] } [] := by
  refine MC.mk (cap := 0) ?_
  · skip
    exact Ctr.path mixed (dg s [] [(lineV 1 [])] [encL []]) ⟨[(.len 31 (.chan (some 0)), .int .i64 0)], [], []⟩ [] ⟨asLen u31 rfl (by kernel_rfl), trivial⟩ trivial trivial trivial
      (N := 200) (c0 := 2) (A0 := lockL [(29, .int .i64 0)]) (args0 := lockP) (τ := [(0, 0), (1, 3)]) (ros := []) (by kernel_rfl) (by kernel_rfl) (by kernel_rfl)
theorem listTo_mem (f : Nat → Bool) : ∀ i n, n ∈ listTo f i ↔ ∃ k, k < i ∧ f k = true ∧ n = (k : Int)
  | 0, n => by simp [listTo]
  | i + 1, n => by
    unfold listTo
    constructor
    · intro h
      split at h
      · rename_i hf
        rcases List.mem_append.1 h with h | h
        · obtain ⟨k, h1, h2⟩ := (listTo_mem f i n).1 h
          exact ⟨k, by omega, h2⟩
        · exact ⟨i, by omega, hf, List.mem_singleton.1 h⟩
      · obtain ⟨k, h1, h2⟩ := (listTo_mem f i n).1 h
        exact ⟨k, by omega, h2⟩
    · rintro ⟨k, h1, h2, h3⟩
      by_cases hk : k = i
      · subst hk
        rw [if_pos h2]
        exact List.mem_append_right _ (List.mem_singleton.2 h3)
      · have := (listTo_mem f i n).2 ⟨k, by omega, h2, h3⟩
        split
        · exact List.mem_append_left _ this
        · exact this
theorem lowest_bound (f : Nat → Bool) : -1 ≤ lowest f ∧ lowest f < 8 := by
  unfold lowest
  cases h : listTo f 8 with
  | nil => exact (show (-1 : Int) ≤ -1 ∧ (-1 : Int) < 8 from by omega)
  | cons n l =>
    obtain ⟨k, h1, _, h3⟩ := (listTo_mem f 8 n).1 (by rw [h]; exact List.mem_cons_self)
    exact (show (-1 : Int) ≤ n ∧ n < 8 from by omega)
theorem supply_bound {s : St} (h : Inv s) : -1 ≤ supplyP s ∧ supplyP s < 8 := by
  have h1 := h.x
  have h2 := h.owner
  have h3 := lowest_bound (upd s.sh s.hn.toNat false)
  have h4 : -1 ≤ thirdP s ∧ thirdP s < 8 := by
    unfold thirdP
    split
    · split
      · omega
      · exact h3
    · exact h3
  unfold supplyP
  split
  · split
    · exact h4
    · split
      · exact h4
      · split
        · exact h2
        · exact h4
  · exact h1
structure Post (s : St) : Prop where
  inv : Inv s
  idle : s.wt = 0 → s.line = [] ∧ reset s = s
  busy : s.wt ≠ 0 → Hand s ∧ 1 ≤ s.hk ∧ s.hk ≤ 3 ∧ 1 ≤ s.wt ∧ s.wt ≤ 3
theorem reset_inv {s : St} (h : Inv s) : Inv (reset s) := ⟨h.x, h.owner, by show (-1 : Int) ≤ -1 ∧ (-1 : Int) < 8; omega, h.op, h.line⟩
theorem wt_reset {s : St} (h : reset s = s) : s.wt = 0 := by rw [← h]; rfl
theorem dropsM_len (op : Int) (l : List Int) : (dropsM op l).length = l.length := by unfold dropsM; rw [List.length_map]
structure Res (b : Nat) (s : St) (r : St × List Ord) : Prop where
  post : Post r.1
  tot : r.1.op + r.1.line.length = s.op + s.line.length
  op : s.op ≤ r.1.op
  len : r.2.length ≤ s.line.length + b
theorem goneM_inv {s : St} (hv : Inv s) : Inv (exS s) := ⟨hv.x, hv.owner, supply_bound hv, hv.op, hv.line⟩
theorem onM_res {s : St} (hv : Inv s) (hi : Hand s) (hk : 1 ≤ s.hk ∧ s.hk ≤ 3) : Res 10 s (onM s) := by
  refine ⟨⟨⟨hv.x, hv.owner, hv.su, hv.op, hv.line⟩, fun h => absurd h (by show ¬ (2 : Int) = 0; omega), fun _ => ⟨hi, hk.1, hk.2, ?_, ?_⟩⟩, rfl, Int.le_refl _, ?_⟩
  · show (1 : Int) ≤ 2; omega
  · show (2 : Int) ≤ 3; omega
  · show 1 ≤ _; omega
def Next (nx : St → St × List Ord) (s : St) : Prop := ∀ pa, MC 94 [] (reset { s with pa := pa }) (nx (reset { s with pa := pa })).1 (nx (reset { s with pa := pa })).2 ∧ Res 9 (reset { s with pa := pa }) (nx (reset { s with pa := pa }))
theorem beginS_ctr {nx : St → St × List Ord} {s : St} (hv : Inv s) (hi : Hand s) (hk : 1 ≤ s.hk ∧ s.hk ≤ 3) (hn : Next nx s) : MC 67 [] s (beginS nx s).1 (beginS nx s).2 ∧ Res 10 s (beginS nx s) := by
  have ⟨h1, h2⟩ := hn s.pa
  unfold beginS
  by_cases hx : s.x = s.hn
  · rw [if_pos hx]
    exact ⟨beginS_done hi (.inl hx) (done_ctr h1), ⟨h2.post, h2.tot, h2.op, Nat.le_succ_of_le h2.len⟩⟩
  · rw [if_neg hx]
    by_cases hs : s.sh s.hn.toNat = true
    · rw [if_pos hs]
      exact ⟨beginS_done hi (.inr hs) (done_ctr h1), ⟨h2.post, h2.tot, h2.op, Nat.le_succ_of_le h2.len⟩⟩
    · rw [if_neg hs]
      refine ⟨beginS_go hv hi (by rintro (h | h) <;> contradiction), ⟨⟨⟨hv.x, hv.owner, supply_bound hv, hv.op, hv.line⟩, fun h => absurd h (by show ¬ (2 : Int) = 0; omega), fun _ => ⟨hi, hk.1, hk.2, ?_, ?_⟩⟩, rfl, Int.le_refl _, ?_⟩⟩
      · show (1 : Int) ≤ 2; omega
      · show (2 : Int) ≤ 3; omega
      · show 1 ≤ _; omega
theorem beginC_ctr {nx : St → St × List Ord} {s : St} (hv : Inv s) (hi : Hand s) (hk : 1 ≤ s.hk ∧ s.hk ≤ 3) (hl : s.line.length < 10000) (hn : Next nx s) : MC 111 [] s (beginC nx s).1 (beginC nx s).2 ∧ Res 10 s (beginC nx s) := by
  unfold beginC
  by_cases ho : s.owner = -1
  · rw [if_pos ho]
    have ⟨h1, h2⟩ := hn (upd (upd s.pa s.hn.toNat true) s.hn.toNat false)
    have h3 : (nx (reset { s with pa := upd (upd s.pa s.hn.toNat true) s.hn.toNat false })).2.length ≤ s.line.length + 9 := h2.len
    have h4 : (nx (reset { s with pa := upd (upd s.pa s.hn.toNat true) s.hn.toNat false })).2.length < 1000000 := by omega
    exact ⟨beginC_done hi ho (needless_ctr (s := { s with pa := upd s.pa s.hn.toNat true }) hi h4 (done_ctr h1)), ⟨h2.post, h2.tot, h2.op, Nat.succ_le_succ h3⟩⟩
  · rw [if_neg ho]
    refine ⟨beginC_go hi ho, ⟨⟨⟨hv.x, hv.owner, hv.su, hv.op, hv.line⟩, fun h => absurd h (by show ¬ (3 : Int) = 0; omega), fun _ => ⟨hi, hk.1, hk.2, ?_, ?_⟩⟩, rfl, Int.le_refl _, ?_⟩⟩
    · show (1 : Int) ≤ 3; omega
    · show (3 : Int) ≤ 3; omega
    · show 1 ≤ _; omega
theorem beginE_ctr {nx : St → St × List Ord} {s : St} (hv : Inv s) (hi : Hand s) (hk : 1 ≤ s.hk ∧ s.hk ≤ 3) (hn : Next nx s) : MC 68 [] s (beginE nx s).1 (beginE nx s).2 ∧ Res 10 s (beginE nx s) := by
  have ⟨h1, h2⟩ := hn s.pa
  unfold beginE
  by_cases hx : s.x = s.hn
  · rw [if_pos hx]
    exact ⟨beginE_done hx (done_ctr h1), ⟨h2.post, h2.tot, h2.op, Nat.le_succ_of_le h2.len⟩⟩
  · rw [if_neg hx]
    have hs := supply_bound hv
    show MC 68 [] s (if listTo (goneM { s with su := supplyP s }) 8 = [] then onM (exS s) else ({ exS s with wt := 1 }, dropsM s.op (listTo (goneM { s with su := supplyP s }) 8))).1 (if listTo (goneM { s with su := supplyP s }) 8 = [] then onM (exS s) else ({ exS s with wt := 1 }, dropsM s.op (listTo (goneM { s with su := supplyP s }) 8))).2 ∧ Res 10 s (if listTo (goneM { s with su := supplyP s }) 8 = [] then onM (exS s) else ({ exS s with wt := 1 }, dropsM s.op (listTo (goneM { s with su := supplyP s }) 8)))
    by_cases hl : listTo (goneM { s with su := supplyP s }) 8 = []
    · rw [if_pos hl]
      have := onM_res (goneM_inv hv) (s := exS s) hi hk
      exact ⟨beginE_nil hv hi hx hs hl, ⟨this.post, this.tot, this.op, this.len⟩⟩
    · rw [if_neg hl]
      have hlen := listTo_len (goneM { s with su := supplyP s }) 8
      have hv' := goneM_inv hv
      refine ⟨?_, ⟨⟨⟨hv'.x, hv'.owner, hv'.su, hv'.op, hv'.line⟩, fun h => absurd h (by show ¬ (1 : Int) = 0; omega), fun _ => ⟨hi, hk.1, hk.2, ?_, ?_⟩⟩, rfl, Int.le_refl _, ?_⟩⟩
      · rcases he : listTo (goneM { s with su := supplyP s }) 8 with _ | ⟨n0, _ | ⟨n1, _ | ⟨n2, _ | ⟨n3, _ | ⟨n4, _ | ⟨n5, _ | ⟨n6, _ | ⟨n7, _ | ⟨n8, l⟩⟩⟩⟩⟩⟩⟩⟩⟩
        · exact absurd he hl
        · exact beginE_1 hv hi hx hs he
        · exact beginE_2 hv hi hx hs he
        · exact beginE_3 hv hi hx hs he
        · exact beginE_4 hv hi hx hs he
        · exact beginE_5 hv hi hx hs he
        · exact beginE_6 hv hi hx hs he
        · exact beginE_7 hv hi hx hs he
        · exact beginE_8 hv hi hx hs he
        · rw [he] at hlen
          simp only [List.length_cons] at hlen
          omega
      · show (1 : Int) ≤ 1; omega
      · show (1 : Int) ≤ 3; omega
      · show (dropsM _ _).length ≤ _
        rw [dropsM_len]; omega
theorem beginM_ctr {nx : St → St × List Ord} {s : St} (hv : Inv s) (hi : Hand s) (hk : 1 ≤ s.hk ∧ s.hk ≤ 3) (hl : s.line.length < 10000) (hn : Next nx s) : MC (if s.hk = 1 then 67 else if s.hk = 2 then 68 else 111) [] s (beginM nx s).1 (beginM nx s).2 ∧ Res 10 s (beginM nx s) := by
  unfold beginM
  by_cases h1 : s.hk = 1
  · rw [if_pos h1, if_pos h1]; exact beginS_ctr hv hi hk hn
  · rw [if_neg h1, if_neg h1]
    by_cases h2 : s.hk = 2
    · rw [if_pos h2, if_pos h2]; exact beginE_ctr hv hi hk hn
    · rw [if_neg h2, if_neg h2]; exact beginC_ctr hv hi hk hl hn
theorem next_ctr : ∀ (n : Nat) (s : St), s.line.length ≤ n → n < 10000 → Inv s → reset s = s → MC 94 [] s (nextM n s).1 (nextM n s).2 ∧ Res 9 s (nextM n s) := by
  have hnil : ∀ s : St, s.line = [] → Inv s → reset s = s → MC 94 [] s s [] ∧ Res 9 s (s, []) := by
    intro s hl hv hr
    refine ⟨?_, ⟨⟨hv, fun _ => ⟨hl, hr⟩, fun h => absurd (wt_reset hr) h⟩, rfl, Int.le_refl _, Nat.zero_le _⟩⟩
    have h := next_nil s
    have e : { s with wt := 0, line := [] } = s := by
      have h1 := wt_reset hr
      cases s; simp only at h1 hl; subst h1; subst hl; rfl
    rw [e] at h; exact h
  intro n
  induction n with
  | zero =>
    intro s h _ hv hr
    have hl : s.line = [] := List.length_eq_zero_iff.1 (by omega)
    exact hnil s hl hv hr
  | succ n ih =>
    intro s h hn hv hr
    unfold nextM
    cases hl : s.line with
    | nil => exact hnil s hl hv hr
    | cons w rest =>
      rw [hl] at h
      simp only [List.length_cons] at h
      have hop := hv.op
      rw [hl] at hop
      simp only [List.length_cons] at hop
      have hw := hv.line w (by rw [hl]; exact List.mem_cons_self)
      have hv' : Inv { s with hn := w.1, hk := w.2, line := rest, op := s.op + 1 } := ⟨hv.x, hv.owner, hv.su, by show 0 ≤ s.op + 1 ∧ s.op + 1 + rest.length < 4611686018427387904; omega, fun u hu => hv.line u (by rw [hl]; exact List.mem_cons_of_mem _ hu)⟩
      have hb := beginM_ctr (nx := nextM n) hv' ⟨hw.1, hw.2.1⟩ ⟨hw.2.2.1, hw.2.2.2⟩ (by show rest.length < 10000; omega) (fun pa => ih _ (by show rest.length ≤ n; omega) (by omega) (reset_inv ⟨hv'.x, hv'.owner, hv'.su, hv'.op, hv'.line⟩) rfl)
      have hr2 := hb.2
      have e : ∀ k, w.2 = k → { s with wt := 0, line := (w.1, k) :: rest } = s := by
        intro k hk
        subst hk
        have h1 := wt_reset hr
        cases s; simp only at h1 hl; subst h1; subst hl; rfl
      have e2 : ∀ k, w.2 = k → ({ s with hn := w.1, hk := k, wt := 0, line := rest, op := s.op + 1 } : St) = { s with hn := w.1, hk := w.2, line := rest, op := s.op + 1 } := by
        intro k hk
        subst hk
        have h1 := wt_reset hr
        cases s; simp only at h1; subst h1; rfl
      have hlen : (beginM (nextM n) { s with hn := w.1, hk := w.2, line := rest, op := s.op + 1 }).2.length ≤ rest.length + 10 := hr2.len
      have hlen2 : (beginM (nextM n) { s with hn := w.1, hk := w.2, line := rest, op := s.op + 1 }).2.length < 1000000 := by omega
      have hrest : rest.length < 1000000 := by omega
      refine ⟨?_, ⟨hr2.post, ?_, Int.le_trans (show s.op ≤ s.op + 1 by omega) hr2.op, ?_⟩⟩
      · have hE := fun h => (hr2.post.idle h).1
        rcases (show w.2 = 1 ∨ w.2 = 2 ∨ w.2 = 3 by omega) with h1 | h1 | h1
        · have := next_1 (s := s) (n := w.1) (rest := rest) ⟨hop.1, by omega⟩ hrest hlen2 hE (by rw [e2 _ h1]; have := hb.1; rw [if_pos h1] at this; exact this)
          rw [e _ h1] at this; exact this
        · have := next_2 (s := s) (n := w.1) (rest := rest) ⟨hop.1, by omega⟩ hrest hlen2 hE (by rw [e2 _ h1]; have := hb.1; rw [if_neg (by show ¬ w.2 = 1; omega), if_pos h1] at this; exact this)
          rw [e _ h1] at this; exact this
        · have := next_3 (s := s) (n := w.1) (rest := rest) ⟨hop.1, by omega⟩ hrest hlen2 hE (by rw [e2 _ h1]; have := hb.1; rw [if_neg (by show ¬ w.2 = 1; omega), if_neg (by show ¬ w.2 = 2; omega)] at this; exact this)
          rw [e _ h1] at this; exact this
      · have : _ = s.op + 1 + rest.length := hr2.tot
        rw [this, hl]; simp only [List.length_cons]; omega
      · rw [hl]; simp only [List.length_cons]; omega
end Go.Proofs.Ytjpgnjaobfbojaa
namespace Go.Proofs.Ytjpgnjaobfbojaa
open Go.Sx
def idxW : List (Int × Int) → Int × Int → Nat → Int
  | [], _, _ => -1
  | x :: l, w, i => if w = x then (i : Int) else idxW l w (i + 1)
theorem idxW_iff : ∀ (l : List (Int × Int)) (w : Int × Int) (i : Nat), -1 ≤ idxW l w i ∧ idxW l w i < i + l.length ∧ (0 ≤ idxW l w i ↔ w ∈ l)
  | [], w, i => ⟨Int.le_refl _, by show (-1 : Int) < _; simp only [List.length_nil]; omega, by simp [idxW]⟩
  | x :: l, w, i => by
    have ⟨h1, h2, h3⟩ := idxW_iff l w (i + 1)
    unfold idxW
    simp only [List.length_cons]
    split
    · rename_i h
      subst h
      exact ⟨by omega, by omega, by simp only [List.mem_cons_self, iff_true]; omega⟩
    · rename_i h
      refine ⟨h1, by omega, h3.trans ?_⟩
      rw [List.mem_cons]
      exact ⟨.inr, fun hh => hh.resolve_left h⟩
theorem encL_at : ∀ (l : List (Int × Int)) (i : Nat) (w : Int × Int), l[i]? = some w → ((encL l).drop (i * 2)).take 2 = [.int .i64 w.1, .int .i64 w.2]
  | [], i, w, h => by simp at h
  | x :: l, 0, w, h => by simp at h; subst h; rfl
  | x :: l, i + 1, w, h => by
    simp only [List.getElem?_cons_succ] at h
    rw [show (i + 1) * 2 = i * 2 + 2 from by omega]
    exact encL_at l i w h
noncomputable abbrev dIx (l : List (Int × Int)) (w : Int × Int) (cp i : Nat) : Den :=
  mkDen [.int .i64 l.length, .int .i64 (i : Nat), .int .i64 ((i + 1 : Nat) : Int), .int .i64 w.1, .int .i64 w.2, .int .i64 (l[i]?.getD default).1, .int .i64 (l[i]?.getD default).2] rfl
    [.slice (some ⟨1, 0, none⟩) l.length cp, .pointer (some ⟨1, i * 2, none⟩)] rfl [encL l] (rows1 (encL_plain l))
def aIx : HL := [(1, .orow 34 0 true)]
def aIx2 : HL := [(1, .orow 34 0 true), (2, .row 34 (.lst [sv 3, sv 4]) false)]
def wIx : Value := .agg #[sv 3, sv 4]
abbrev asmIx0 : Asm := ⟨[(.len 31 (ch 0), sv 0)], [], []⟩
noncomputable def kIx : List KI := ((ksteps (@rec asmIx0 Try.prog noTbl 100) 7 (startC Try.prog 105 [ch 0, wIx] 2 aIx)).map (·.k)).getD []
noncomputable def xIx : Cfg := headC kIx .normal [(0, ch 0), (3, .pointer (some ⟨2, 0, none⟩)), (7, sv 0), (8, sv 1)] 19 3 aIx2
theorem index_head (l : List (Int × Int)) (w : Int × Int) (cp : Nat) (hl : l.length < 1000000) : ∀ (k i : Nat), i + k = l.length → idxW (l.drop i) w i = idxW l w 0 → GoodF (dIx l w cp i) Try.prog 105 [(1, .row 34 (.lst (encL l)) true)] (.int .i64 (idxW l w 0)) [] [] xIx := by
  intro k
  induction k with
  | zero =>
    intro i hi hw
    rw [List.drop_eq_nil_of_le (by omega)] at hw
    rw [← hw]
    exact GoodF.fin mixed ⟨[kf .lss 3 (sv 1) (sv 0)], [], []⟩ [] ⟨asB (c := decide ((i : Int) < (l.length : Int))) (by kernel_rfl) (decide_eq_false (by omega)), trivial⟩ trivial trivial trivial
      (N := 100) (m := 10) (τ := []) (ros := []) (by kernel_rfl) (by kernel_rfl)
  | succ k ih =>
    intro i hi hw
    have hlt : i < l.length := by omega
    have hget : l[i]? = some l[i] := by simp [hlt]
    have hd : l[i]?.getD default = l[i] := by rw [hget]; rfl
    rw [List.drop_eq_getElem_cons hlt, idxW] at hw
    have hix : @AK.Ok (dIx l w cp i) Try.prog (.ixa 31 (ch 0) (sv 1)) (ch 1) := asIxa u31 z34 rfl rfl (by omega) (by omega) rfl (by simp)
    have hld : @LdE.Ok (dIx l w cp i) Try.prog ⟨34, 1, 1, 0, .agg #[sv 5, sv 6]⟩ := ld_agg a34 z34 rfl (show i * 2 + 2 ≤ (encL l).length by rw [encL_len]; omega) (encL_at l i _ hget) rfl (by rw [← hd]; kernel_rfl)
    have hlss : @AK.Ok (dIx l w cp i) Try.prog (.bin .lss 3 (sv 1) (sv 0)) (.bool true) := asB (c := decide ((i : Int) < (l.length : Int))) (by kernel_rfl) (decide_eq_true (by omega))
    have heq : ∀ b, ((w.1 == l[i].1) && ((w.2 == l[i].2) && true)) = b → @AK.Ok (dIx l w cp i) Try.prog (.bin .eql 34 wIx (.agg #[sv 5, sv 6])) (.bool b) := by
      intro b hb
      refine asEqA (c := b) ?_ rfl
      rw [← hb, ← hd]
      kernel_rfl
    by_cases hx : w = l[i]
    · rw [if_pos hx] at hw
      rw [← hw]
      exact GoodF.fin mixed ⟨[kt .lss 3 (sv 1) (sv 0), (.ixa 31 (ch 0) (sv 1), ch 1), kt .eql 34 wIx (.agg #[sv 5, sv 6])], [⟨34, 1, 1, 0, .agg #[sv 5, sv 6]⟩], []⟩ [] ⟨hlss, hix, heq true (by rw [← hx]; simp), trivial⟩ ⟨hld, trivial⟩ trivial trivial
        (N := 100) (m := 16) (τ := []) (ros := []) (by kernel_rfl) (by kernel_rfl)
    · rw [if_neg hx] at hw
      have hne : ((w.1 == l[i].1) && ((w.2 == l[i].2) && true)) = false := by
        rw [Bool.eq_false_iff]
        intro h
        simp only [Bool.and_true, Bool.and_eq_true, beq_iff_eq] at h
        exact hx (Prod.ext h.1 h.2)
      refine GoodF.seg (d2 := dIx l w cp (i + 1)) mixed ⟨[kt .lss 3 (sv 1) (sv 0), (.ixa 31 (ch 0) (sv 1), ch 1), kf .eql 34 wIx (.agg #[sv 5, sv 6]), (.bin .add 3 (sv 1) (.int .i64 1), sv 2)], [⟨34, 1, 1, 0, .agg #[sv 5, sv 6]⟩], []⟩ [] ⟨hlss, hix, heq false hne, ?_, trivial⟩ ⟨hld, trivial⟩ trivial trivial
        (N := 100) (m := 14) (τ := [(1, 1), (2, 2)]) (ros := []) (by kernel_rfl) (by kernel_rfl) (by kernel_rfl) (ih (i + 1) (by omega) hw)
      refine asP (u := .int .i64 ((i + 1 : Nat) : Int)) ?_ (by kernel_rfl)
      refine Eq.trans (b := some (.int .i64 (IntKind.i64.wrap ((i : Int) + 1)))) (by kernel_rfl) ?_
      rw [wrap_id (by omega) (by omega)]; rfl
theorem index_ctr (l : List (Int × Int)) (w : Int × Int) (cp : Nat) (hl : l.length < 1000000) : Ctr Try.prog 105 [.slice (some ⟨1, 0, none⟩) l.length cp, .agg #[.int .i64 w.1, .int .i64 w.2]] [(1, .row 34 (.lst (encL l)) true)] (.int .i64 (idxW l w 0)) [] := by
  refine Ctr.of_good (d := dIx l w cp 0) [] (c0 := 2) (A0 := aIx) (args0 := [ch 0, wIx]) (by kernel_rfl) (by kernel_rfl) (by kernel_rfl) ?_
  exact GoodF.seg (d2 := dIx l w cp 0) mixed asmIx0 [] ⟨asLen u31 rfl rfl, trivial⟩ trivial trivial trivial
    (N := 100) (m := 7) (τ := [(1, 1), (2, 2)]) (ros := []) (by kernel_rfl) (by kernel_rfl) (by kernel_rfl) (index_head l w cp hl l.length 0 (by omega) rfl)
noncomputable abbrev dCo (l : List (Int × Int)) (w : Int × Int) (cp : Nat) : Den :=
  mkDen [.int .i64 w.1, .int .i64 w.2, .int .i64 (idxW l w 0)] rfl [.slice (some ⟨1, 0, none⟩) l.length cp] rfl [encL l] (rows1 (encL_plain l))
theorem contains_ctr (l : List (Int × Int)) (w : Int × Int) (cp : Nat) (hl : l.length < 1000000) : Ctr Try.prog 93 [.slice (some ⟨1, 0, none⟩) l.length cp, .agg #[.int .i64 w.1, .int .i64 w.2]] [(1, .row 34 (.lst (encL l)) true)] (.bool (decide (w ∈ l))) [] := by
  have ⟨_, _, h3⟩ := idxW_iff l w 0
  have key : ∀ b : Bool, decide (idxW l w 0 ≥ 0) = b → Ctr Try.prog 93 [.slice (some ⟨1, 0, none⟩) l.length cp, .agg #[.int .i64 w.1, .int .i64 w.2]] [(1, .row 34 (.lst (encL l)) true)] (.bool b) [] := by
    intro b hb
    have hok : @AK.Ok (dCo l w cp) Try.prog (.bin .geq 3 (sv 2) (.int .i64 0)) (.bool b) := asB (c := decide (idxW l w 0 ≥ 0)) (by kernel_rfl) hb
    cases b
    · exact Ctr.path mixed (dCo l w cp) ⟨[kf .geq 3 (sv 2) (.int .i64 0)], [], []⟩ [(105, [{ args := [ch 0, .agg #[sv 0, sv 1]], c := 3, foots := [⟨1, 1, true, .orow 34 0 true, .orow 34 0 true⟩], news := [], res := sv 2 }])] ⟨hok, trivial⟩ trivial trivial ⟨one_entry (entOK (index_ctr l w cp hl) rfl (by kernel_rfl)), trivial⟩
        (N := 200) (c0 := 2) (A0 := aIx) (args0 := [ch 0, .agg #[sv 0, sv 1]]) (τ := []) (ros := []) (by kernel_rfl) (by kernel_rfl) (by kernel_rfl)
    · exact Ctr.path mixed (dCo l w cp) ⟨[kt .geq 3 (sv 2) (.int .i64 0)], [], []⟩ [(105, [{ args := [ch 0, .agg #[sv 0, sv 1]], c := 3, foots := [⟨1, 1, true, .orow 34 0 true, .orow 34 0 true⟩], news := [], res := sv 2 }])] ⟨hok, trivial⟩ trivial trivial ⟨one_entry (entOK (index_ctr l w cp hl) rfl (by kernel_rfl)), trivial⟩
        (N := 200) (c0 := 2) (A0 := aIx) (args0 := [ch 0, .agg #[sv 0, sv 1]]) (τ := []) (ros := []) (by kernel_rfl) (by kernel_rfl) (by kernel_rfl)
  refine key _ ?_
  rw [decide_eq_decide]
  exact h3
end Go.Proofs.Ytjpgnjaobfbojaa
namespace Go.Proofs.Ytjpgnjaobfbojaa
open Go.Sx
set_option maxRecDepth 20000
theorem contains_yes (l : List (Int × Int)) (w : Int × Int) (cp : Nat) (hl : l.length < 1000000) (h : w ∈ l) : Ctr Try.prog 93 [.slice (some ⟨1, 0, none⟩) l.length cp, .agg #[.int .i64 w.1, .int .i64 w.2]] [(1, .row 34 (.lst (encL l)) true)] (.bool true) [] := by
  have := contains_ctr l w cp hl
  rw [decide_eq_true h] at this; exact this
theorem contains_no (l : List (Int × Int)) (w : Int × Int) (cp : Nat) (hl : l.length < 1000000) (h : ¬ w ∈ l) : Ctr Try.prog 93 [.slice (some ⟨1, 0, none⟩) l.length cp, .agg #[.int .i64 w.1, .int .i64 w.2]] [(1, .row 34 (.lst (encL l)) true)] (.bool false) [] := by
  have := contains_ctr l w cp hl
  rw [decide_eq_false h] at this; exact this
theorem and2_false {a b c d : Int} (h : ¬ (a = c ∧ b = d)) : ((a == c) && ((b == d) && true)) = false := by
  rw [Bool.eq_false_iff]
  intro hh
  simp only [Bool.and_true, Bool.and_eq_true, beq_iff_eq] at hh
  exact h hh
theorem encL_app : ∀ l m : List (Int × Int), encL (l ++ m) = encL l ++ encL m
  | [], _ => rfl
  | x :: l, m => by simp [encL, encL_app l m]
theorem app_w_nil (w : Int × Int) : AppC Try.prog [31, 31] [.slice (some ⟨0, 0, none⟩) 0 0, .slice (some ⟨1, 0, none⟩) 1 1] [(0, .row 34 (.lst (encL [])) true), (1, .row 34 (.lst [.int .i64 w.1, .int .i64 w.2]) true)] (.slice (some ⟨2, 0, none⟩) [w].length INF) [(2, .row 34 (.lst (encL [w])) false)] :=
  AppC.cap (P := Try.prog) elemW (bl := []) (l := [.int .i64 w.1, .int .i64 w.2]) (n := 0) (m := 1) (off := 0) (cp := 1) (T := 34) (Tb := 34) rfl rfl (by omega) (by simp) rfl (by omega) (by unfold HALF; omega)
theorem app_w_cons (y : Int × Int) (r : List (Int × Int)) (w : Int × Int) (h : (y :: r).length < 1000000) : AppC Try.prog [31, 31] [.slice (some ⟨0, 0, none⟩) (y :: r).length INF, .slice (some ⟨1, 0, none⟩) 1 1] [(0, .row 34 (.lst (encL (y :: r))) false), (1, .row 34 (.lst [.int .i64 w.1, .int .i64 w.2]) true)] (.slice (some ⟨2, 0, none⟩) ((y :: r) ++ [w]).length INF) [(0, .dead), (2, .row 34 (.lst (encL ((y :: r) ++ [w]))) false)] := by
  have h := AppC.inf (P := Try.prog) elemW (bl := encL (y :: r)) (l := [.int .i64 w.1, .int .i64 w.2]) (n := (y :: r).length) (m := 1) (off := 0) (cp := 1) (T := 34) (encL_len _) (encL_plain _) (by omega) (by simp) rfl (by omega) (by unfold HALF; omega)
  have e1 : (y :: r).length + 1 = ((y :: r) ++ [w]).length := by simp
  have e2 : encL (y :: r) ++ (List.drop 0 [Value.int .i64 w.1, .int .i64 w.2]).take (1 * 2) = encL ((y :: r) ++ [w]) := by rw [encL_app]; rfl
  rw [e1, e2] at h
  exact h
theorem wish_hand {s : St} {n k : Int} (hw : ¬ s.wt = 0) (hs : s.hn = n ∧ s.hk = k) : MC 65 [.agg #[.int .i64 n, .int .i64 k]] s s [] := by
  refine MC.mk (cap := 0) ?_
  · skip
    exact pth (dg s [iv n, iv k] [(lineV 1 s.line)] [encL s.line]) ⟨[kt .neq 71 (sv 29) (iv 0), kt .eql 34 (.agg #[sv 27, sv 28]) (.agg #[sv 40, sv 41])], [], []⟩ [] ⟨asB (c := (s.wt != 0)) (by kernel_rfl) (bne_iff_ne.2 hw), asEqA (c := true) (Eq.trans (b := some ((s.hn == n) && ((s.hk == k) && true))) (by kernel_rfl) (by rw [hs.1, hs.2]; simp)) rfl, trivial⟩ trivial trivial trivial 2 (lockL []) (lockP ++ [.agg #[sv 40, sv 41]]) [(0, 0), (1, 3)]
theorem wish_line {s : St} {n k : Int} (hw : ¬ s.wt = 0) (hs : ¬ (s.hn = n ∧ s.hk = k)) (hlen : s.line.length < 1000000) (hm : (n, k) ∈ s.line) : MC 65 [.agg #[.int .i64 n, .int .i64 k]] s s [] := by
  refine MC.mk (cap := 0) ?_
  · skip
    exact pth (dg s [iv n, iv k] [(lineV 1 s.line)] [encL s.line]) ⟨[kt .neq 71 (sv 29) (iv 0), kf .eql 34 (.agg #[sv 27, sv 28]) (.agg #[sv 40, sv 41])], [], []⟩ [(93, [{ args := [ch 0, .agg #[sv 40, sv 41]], c := 3, foots := [⟨1, 1, true, .orow 34 0 false, .orow 34 0 false⟩], news := [], res := .bool true }])] ⟨asB (c := (s.wt != 0)) (by kernel_rfl) (bne_iff_ne.2 hw), asEqA (c := false) (Eq.trans (b := some ((s.hn == n) && ((s.hk == k) && true))) (by kernel_rfl) (congrArg some (and2_false hs))) rfl, trivial⟩ trivial trivial ⟨oe (contains_yes s.line (n, k) (capL s.line) hlen hm), trivial⟩ 2 (lockL []) (lockP ++ [.agg #[sv 40, sv 41]]) [(0, 0), (1, 3)]
theorem wish_end_nil {s : St} {n k : Int} (hw : ¬ s.wt = 0) (hs : ¬ (s.hn = n ∧ s.hk = k)) (hlen : ([] : List (Int × Int)).length < 1000000) (hm : ¬ (n, k) ∈ ([] : List (Int × Int))) : MC 65 [.agg #[.int .i64 n, .int .i64 k]] { s with line := [] } { s with line := [(n, k)] } [] := by
  refine MC.mk (cap := 0) ?_
  · skip
    exact pth (dg s [iv n, iv k] [(lineV 1 []), .slice (some ⟨4, 0, none⟩) [(n, k)].length INF] [encL [], encL [(n, k)]]) ⟨[kt .neq 71 (sv 29) (iv 0), kf .eql 34 (.agg #[sv 27, sv 28]) (.agg #[sv 40, sv 41])], [], [([31, 31], { args := [ch 0, .slice (some ⟨3, 0, none⟩) 1 1], c := 4, foots := [⟨1, 0, true, .orow 34 0 false, .orow 34 0 false⟩, ⟨3, 1, true, .row 34 (.lst [sv 40, sv 41]) false, .row 34 (.lst [sv 40, sv 41]) false⟩], news := [(2, .orow 34 1 false)], res := ch 1 })]⟩ [(93, [{ args := [ch 0, .agg #[sv 40, sv 41]], c := 3, foots := [⟨1, 1, true, .orow 34 0 false, .orow 34 0 false⟩], news := [], res := .bool false }])] ⟨asB (c := (s.wt != 0)) (by kernel_rfl) (bne_iff_ne.2 hw), asEqA (c := false) (Eq.trans (b := some ((s.hn == n) && ((s.hk == k) && true))) (by kernel_rfl) (congrArg some (and2_false hs))) rfl, trivial⟩ trivial ⟨ap (app_w_nil (n, k)), trivial⟩ ⟨oe (contains_no [] (n, k) (capL []) hlen hm), trivial⟩ 2 (lockL []) (lockP ++ [.agg #[sv 40, sv 41]]) [(0, 0), (4, 3)]
theorem wish_end_cons {s : St} {n k : Int} {y : Int × Int} {r : List (Int × Int)} (hw : ¬ s.wt = 0) (hs : ¬ (s.hn = n ∧ s.hk = k)) (hlen : (y :: r).length < 1000000) (hm : ¬ (n, k) ∈ y :: r) : MC 65 [.agg #[.int .i64 n, .int .i64 k]] { s with line := y :: r } { s with line := y :: r ++ [(n, k)] } [] := by
  refine MC.mk (cap := 0) ?_
  have hl2 := hlen
  · skip
    exact pth (dg s [iv n, iv k] [(lineV 1 (y :: r)), .slice (some ⟨4, 0, none⟩) ((y :: r) ++ [(n, k)]).length INF] [encL (y :: r), encL ((y :: r) ++ [(n, k)])]) ⟨[kt .neq 71 (sv 29) (iv 0), kf .eql 34 (.agg #[sv 27, sv 28]) (.agg #[sv 40, sv 41])], [], [([31, 31], { args := [ch 0, .slice (some ⟨3, 0, none⟩) 1 1], c := 4, foots := [⟨1, 0, false, .orow 34 0 false, .dead⟩, ⟨3, 1, true, .row 34 (.lst [sv 40, sv 41]) false, .row 34 (.lst [sv 40, sv 41]) false⟩], news := [(2, .orow 34 1 false)], res := ch 1 })]⟩ [(93, [{ args := [ch 0, .agg #[sv 40, sv 41]], c := 3, foots := [⟨1, 1, true, .orow 34 0 false, .orow 34 0 false⟩], news := [], res := .bool false }])] ⟨asB (c := (s.wt != 0)) (by kernel_rfl) (bne_iff_ne.2 hw), asEqA (c := false) (Eq.trans (b := some ((s.hn == n) && ((s.hk == k) && true))) (by kernel_rfl) (congrArg some (and2_false hs))) rfl, trivial⟩ trivial ⟨ap (app_w_cons y r (n, k) hl2), trivial⟩ ⟨oe (contains_no (y :: r) (n, k) (capL (y :: r)) hlen hm), trivial⟩ 2 (lockL []) (lockP ++ [.agg #[sv 40, sv 41]]) [(0, 0), (4, 3)]
theorem wish_begin {s t : St} {n k : Int} {o : List Ord} (hlen : ([] : List (Int × Int)).length < 1000000) (hm : ¬ (n, k) ∈ ([] : List (Int × Int))) (h : MC 94 [] { s with wt := 0, line := [(n, k)] } t o) : MC 65 [.agg #[.int .i64 n, .int .i64 k]] { s with wt := 0, line := [] } t o := by
  obtain ⟨cap, hcap, hN⟩ := h
  refine MC.mk (cap := cap) ?_
  cases o with
  | nil =>
    · skip
      exact pth (dg s ([iv n, iv k] ++ tv t) [(lineV 1 []), .slice (some ⟨4, 0, none⟩) [(n, k)].length INF, lineV 5 t.line] [encL [], encL [(n, k)], encL t.line]) ⟨[], [], [([31, 31], { args := [ch 0, .slice (some ⟨3, 0, none⟩) 1 1], c := 4, foots := [⟨1, 0, true, .orow 34 0 false, .orow 34 0 false⟩, ⟨3, 1, true, .row 34 (.lst [sv 40, sv 41]) false, .row 34 (.lst [sv 40, sv 41]) false⟩], news := [(2, .orow 34 1 false)], res := ch 1 })]⟩ [(93, [{ args := [ch 0, .agg #[sv 40, sv 41]], c := 3, foots := [⟨1, 1, true, .orow 34 0 false, .orow 34 0 false⟩], news := [], res := .bool false }]), (94, [(eC0 [pt 0 0] 5 [(26, ch 1), (29, iv 0)] 42 2 4 1 2)])] trivial trivial ⟨ap (app_w_nil (n, k)), trivial⟩ ⟨oe (contains_no [] (n, k) (capL []) hlen hm), oe hN, trivial⟩ 2 (lockL [(29, iv 0)]) (lockP ++ [.agg #[sv 40, sv 41]]) [(0, 0), (5, 3)]
  | cons x l =>
    · skip
      exact pth (dg s ([iv n, iv k] ++ tv t) [(lineV 1 []), .slice (some ⟨4, 0, none⟩) [(n, k)].length INF, lineV 5 t.line, .slice (some ⟨6, 0, none⟩) (x :: l).length cap] [encL [], encL [(n, k)], encL t.line, encOrds (x :: l)]) ⟨[], [], [([31, 31], { args := [ch 0, .slice (some ⟨3, 0, none⟩) 1 1], c := 4, foots := [⟨1, 0, true, .orow 34 0 false, .orow 34 0 false⟩, ⟨3, 1, true, .row 34 (.lst [sv 40, sv 41]) false, .row 34 (.lst [sv 40, sv 41]) false⟩], news := [(2, .orow 34 1 false)], res := ch 1 })]⟩ [(93, [{ args := [ch 0, .agg #[sv 40, sv 41]], c := 3, foots := [⟨1, 1, true, .orow 34 0 false, .orow 34 0 false⟩], news := [], res := .bool false }]), (94, [(eC1 [pt 0 0] 5 [(26, ch 1), (29, iv 0)] 42 2 4 1 2 3 (ch 3))])] trivial trivial ⟨ap (app_w_nil (n, k)), trivial⟩ ⟨oe (contains_no [] (n, k) (capL []) hlen hm), oe hN, trivial⟩ 2 (lockL [(29, iv 0)]) (lockP ++ [.agg #[sv 40, sv 41]]) [(0, 0), (5, 3), (6, 2)]
end Go.Proofs.Ytjpgnjaobfbojaa

import Derived.Test.YtjpgnjaobfbojaaQm
namespace Go.Proofs.Ytjpgnjaobfbojaa
open Go.Sx
theorem markD_app (p : Nat → Bool) : ∀ (l m : List Ord), markD p (l ++ m) = markD (markD p l) m := by
  intro l
  induction l generalizing p with
  | nil => intro m; rfl
  | cons x l ih => intro m; exact ih _ m
theorem markD_no (p : Nat → Bool) : ∀ (l : List Ord), (∀ x ∈ l, x.kind ≠ 6) → markD p l = p
  | [], _ => rfl
  | x :: l, h => by
    simp only [markD]
    rw [if_neg (h x List.mem_cons_self)]
    exact markD_no p l fun y hy => h y (List.mem_cons_of_mem _ hy)
def Sub (p q : Nat → Bool) : Prop := ∀ n, n < 8 → p n = true → q n = true
theorem sub_upd {p q : Nat → Bool} (h : Sub p q) (i : Nat) : Sub (upd p i false) (upd q i false) := fun n hn hp => by
  unfold upd at *
  by_cases e : n = i
  · rw [if_pos e] at hp; cases hp
  · rw [if_neg e] at hp ⊢; exact h n hn hp
theorem sub_true {p q : Nat → Bool} (h : Sub p q) (i : Nat) : Sub p (upd q i true) := fun n hn hp => by
  unfold upd
  split
  · rfl
  · exact h n hn hp
structure Core (s : St) : Prop where
  own : 0 ≤ s.owner → s.x = s.owner ∨ s.sh s.owner.toNat = true
  ex : 0 ≤ s.x → s.owner = s.x
structure Wt (s : St) : Prop where
  b : s.wt = 1 → 0 ≤ s.owner → s.go s.owner.toNat = false
  c : s.wt = 2 → s.hk = 2 → 0 ≤ s.owner → s.owner ≠ s.hn → s.su = s.owner
  d : s.wt = 2 → s.hk = 1 → 0 ≤ s.x → s.su = s.x
theorem Wt.none {s : St} (h1 : s.wt ≠ 1) (h2 : s.wt ≠ 2) : Wt s := ⟨fun h => absurd h h1, fun h => absurd h h2, fun h => absurd h h2⟩
theorem Core.of {s t : St} (h : Core s) (h1 : t.x = s.x) (h2 : t.sh = s.sh) (h3 : t.owner = s.owner) : Core t := ⟨by rw [h1, h2, h3]; exact h.own, by rw [h1, h3]; exact h.ex⟩
structure BO (s : St) (r : St × List Ord) : Prop where
  x : r.1.x = s.x
  sh : r.1.sh = s.sh
  owner : r.1.owner = s.owner
  wt : Wt r.1
  pa : ∀ p, Sub p s.pa → Sub (markD p r.2) r.1.pa
  grow : 0 ≤ s.owner → Sub s.pa r.1.pa
  to : ∀ x ∈ r.2, x.kind = 6 → 0 ≤ x.to ∧ x.to < 8
theorem BO.of {s u : St} {r : St × List Ord} (h : BO u r) (h1 : u.x = s.x) (h2 : u.sh = s.sh) (h3 : u.owner = s.owner) (h4 : u.pa = s.pa) : BO s r :=
  ⟨h.x.trans h1, h.sh.trans h2, h.owner.trans h3, h.wt, fun p hp => h.pa p (by rw [h4]; exact hp), fun ho => by rw [← h4]; exact h.grow (by rw [h3]; exact ho), h.to⟩
theorem BO.stay {s t : St} {o : List Ord} (h1 : t.x = s.x) (h2 : t.sh = s.sh) (h3 : t.owner = s.owner) (h4 : t.pa = s.pa) (hw : Wt t) (ho : ∀ x ∈ o, x.kind ≠ 6) : BO s (t, o) :=
  ⟨h1, h2, h3, hw, fun p hp => by show Sub (markD p o) t.pa; rw [markD_no p o ho, h4]; exact hp, fun _ => by show Sub s.pa t.pa; rw [h4]; exact fun _ _ h => h, fun x hx h => absurd h (ho x hx)⟩
theorem supply_own {s : St} (hv : Inv s) (hc : Core s) (ho : 0 ≤ s.owner) (hh : s.owner ≠ s.hn) : supplyP s = s.owner := by
  unfold supplyP
  by_cases hx : s.x = -1
  · rw [if_pos hx, if_neg (by omega), if_neg hh, if_pos ((hc.own ho).resolve_left (by omega))]
  · rw [if_neg hx]
    have := hv.x
    exact (hc.ex (by omega)).symm
section
variable {s : St} {nx : St → St × List Ord}
theorem beginS_BO (_hv : Inv s) (h1 : s.hk = 1) (hn : BO (reset s) (nx (reset s))) : BO s (beginS nx s) := by
  unfold beginS
  split
  · exact hn.of rfl rfl rfl rfl
  · split
    · exact hn.of rfl rfl rfl rfl
    · refine BO.stay rfl rfl rfl rfl ⟨fun h => absurd h (by show ¬ (2 : Int) = 1; decide), fun _ h => absurd (h1.symm.trans h) (by decide), fun _ _ hx => ?_⟩ fun x hx => ?_
      · show supplyP s = s.x
        have hx' : 0 ≤ s.x := hx
        unfold supplyP
        rw [if_neg (by omega)]
      · obtain rfl := List.mem_singleton.1 hx
        split
        · exact fun h => by cases h
        · exact fun h => by cases h
theorem beginE_BO (hv : Inv s) (hi : Hand s) (hc : Core s) (h2 : s.hk = 2) (hn : BO (reset s) (nx (reset s))) : BO s (beginE nx s) := by
  unfold beginE
  split
  · exact hn.of rfl rfl rfl rfl
  · dsimp only
    have hb := supply_bound hv
    split
    · refine BO.stay rfl rfl rfl rfl ⟨fun h => absurd h (by show ¬ (2 : Int) = 1; decide), fun _ _ ho hh => supply_own hv hc ho hh, fun _ h => absurd (h2.symm.trans h) (by decide)⟩ fun x hx => ?_
      obtain rfl := List.mem_singleton.1 hx
      split
      · exact fun h => by cases h
      · exact fun h => by cases h
    · refine BO.stay rfl rfl rfl rfl ⟨fun _ ho => ?_, fun h => absurd h (by show ¬ (1 : Int) = 2; decide), fun h => absurd h (by show ¬ (1 : Int) = 2; decide)⟩ fun x hx => ?_
      · show goneM { s with su := supplyP s } s.owner.toNat = false
        have ho' : 0 ≤ s.owner := ho
        rw [goneM_eq (s := { s with su := supplyP s }) hi hb]
        unfold goneB
        have e : ((s.owner.toNat : Nat) : Int) = s.owner := by omega
        by_cases hh : s.owner = s.hn
        · have : decide (((s.owner.toNat : Nat) : Int) = s.hn) = true := decide_eq_true (by rw [e]; exact hh)
          simp only [this]; simp
        · have : decide (((s.owner.toNat : Nat) : Int) = supplyP s) = true := decide_eq_true (by rw [e]; exact (supply_own hv hc ho' hh).symm)
          simp only [this]; simp
      · obtain ⟨n, _, rfl⟩ := List.mem_map.1 hx
        exact fun h => by cases h
theorem needM_BO (hi : Hand s) (ho : s.owner = -1) (hn : ∀ pa, BO (reset { s with pa := pa }) (nx (reset { s with pa := pa }))) : BO s (needM nx s) := by
  have h := hn (upd s.pa s.hn.toNat false)
  refine ⟨h.x, h.sh, h.owner, h.wt, fun p hp => ?_, fun h0 => absurd h0 (by omega), fun x hx => ?_⟩
  · exact h.pa (upd p s.hn.toNat false) (sub_upd hp _)
  · rcases List.mem_cons.1 hx with rfl | hx
    · exact fun _ => ⟨hi.1, hi.2⟩
    · exact h.to x hx
theorem beginM_BO (hv : Inv s) (hi : Hand s) (hc : Core s) (hn : ∀ pa, BO (reset { s with pa := pa }) (nx (reset { s with pa := pa }))) : BO s (beginM nx s) := by
  unfold beginM
  split
  · rename_i h; exact beginS_BO hv h (hn s.pa)
  · split
    · rename_i h; exact beginE_BO hv hi hc h (hn s.pa)
    · unfold beginC
      split
      · rename_i ho
        have h := needM_BO (nx := nx) (s := { s with pa := upd s.pa s.hn.toNat true }) hi ho hn
        exact ⟨h.x, h.sh, h.owner, h.wt, fun p hp => h.pa p (sub_true hp _), fun h0 => absurd h0 (by omega), h.to⟩
      · refine ⟨rfl, rfl, rfl, Wt.none (by show ¬ (3 : Int) = 1; decide) (by show ¬ (3 : Int) = 2; decide), fun p hp => ?_, fun _ => sub_true (fun _ _ h => h) _, fun x hx => ?_⟩
        · exact sub_true hp _
        · obtain rfl := List.mem_singleton.1 hx
          exact fun h => by cases h
end
theorem next_BO : ∀ (n : Nat) (s : St), Inv s → Core s → s.wt = 0 → BO s (nextM n s)
  | 0, s, _, _, hw => BO.stay rfl rfl rfl rfl (Wt.none (by rw [hw]; decide) (by rw [hw]; decide)) fun x hx => by cases hx
  | n + 1, s, hv, hc, hw => by
    unfold nextM
    split
    · exact BO.stay rfl rfl rfl rfl (Wt.none (by rw [hw]; decide) (by rw [hw]; decide)) fun x hx => by cases hx
    · rename_i w rest hs
      have hwl := hv.line w (by rw [hs]; exact List.mem_cons_self)
      have hop := hv.op
      rw [hs] at hop
      simp only [List.length_cons] at hop
      have hop2 : 0 ≤ s.op + 1 ∧ s.op + 1 + rest.length < 4611686018427387904 := by omega
      have hvu : ∀ pa, Inv { s with hn := w.1, hk := w.2, line := rest, op := s.op + 1, pa := pa } := fun pa => ⟨hv.x, hv.owner, hv.su, hop2, fun v hv' => hv.line v (by rw [hs]; exact List.mem_cons_of_mem _ hv')⟩
      exact (beginM_BO (nx := nextM n) (s := { s with hn := w.1, hk := w.2, line := rest, op := s.op + 1 }) (hvu s.pa) ⟨hwl.1, hwl.2.1⟩ (hc.of rfl rfl rfl) (fun pa => next_BO n _ (reset_inv (hvu pa)) (hc.of rfl rfl rfl) rfl)).of rfl rfl rfl rfl
structure JT (s : St) : Prop where
  p2 : P2 s
  core : Core s
  wt : Wt s
structure TS (s : St) (r : St × List Ord) : Prop where
  core : Core r.1
  wt : Wt r.1
  pa : ∀ p, Sub p s.pa → Sub (markD p r.2) r.1.pa
  to : ∀ x ∈ r.2, x.kind = 6 → 0 ≤ x.to ∧ x.to < 8
theorem BO.toTS {s u : St} {r : St × List Ord} (h : BO u r) (hc : Core u) (h4 : u.pa = s.pa) : TS s r := ⟨hc.of h.x h.sh h.owner, h.wt, fun p hp => h.pa p (by rw [h4]; exact hp), h.to⟩
section
variable {s : St} {n k m op psn : Int}
theorem JT.keep (h : JT s) : TS s (s, []) := ⟨h.core, h.wt, fun p hp => hp, fun x hx => by cases hx⟩
theorem TS.same {t : St} (hc : Core t) (hw : Wt t) (h4 : t.pa = s.pa) : TS s (t, []) := ⟨hc, hw, fun p hp => by show Sub p t.pa; rw [h4]; exact hp, fun x hx => by cases hx⟩
theorem wish_TS (h : JT s) (hb : s.op + s.line.length ≤ 900) (hn : 0 ≤ n ∧ n < 8) (hk : 1 ≤ k ∧ k ≤ 3) : TS s (wishM s n k) := by
  have hop := h.p2.post.inv.op
  unfold wishM
  split
  · rename_i hw
    have hop2 : 0 ≤ s.op ∧ s.op + ((1 : Nat) : Int) < 4611686018427387904 := by omega
    exact (next_BO FU { s with line := [(n, k)] } ⟨h.p2.post.inv.x, h.p2.post.inv.owner, h.p2.post.inv.su, hop2, fun w hw => by
      obtain rfl := List.mem_singleton.1 hw
      exact ⟨hn.1, hn.2, hk.1, hk.2⟩⟩ (h.core.of rfl rfl rfl) hw).toTS (h.core.of rfl rfl rfl) rfl
  · split
    · exact h.keep
    · split
      · exact h.keep
      · exact TS.same (h.core.of rfl rfl rfl) ⟨h.wt.b, h.wt.c, h.wt.d⟩ rfl
theorem left_TS (hv : Inv s) (hi : Hand s) (hc : Core s) (hw : Wt s) (h2 : s.hk = 2) (h1 : s.wt = 1) (_hn : 0 ≤ n ∧ n < 8) (hg : s.go n.toNat = true) : TS s (leftM s n) := by
  have hv' : Inv (leftS s n) := ⟨hv.x, hv.owner, hv.su, hv.op, hv.line⟩
  have hne : 0 ≤ s.owner → s.owner.toNat ≠ n.toNat := fun ho e => by
    have := hw.b h1 ho
    rw [e, hg] at this; cases this
  have hc' : Core (leftS s n) := ⟨fun ho => by
    have ho' : 0 ≤ s.owner := ho
    rcases hc.own ho' with h | h
    · exact .inl h
    · refine .inr ?_
      show upd s.sh n.toNat false s.owner.toNat = true
      unfold upd
      rw [if_neg (hne ho')]
      exact h, hc.ex⟩
  unfold leftM
  split
  · exact (beginE_BO (nx := nextM FU) hv' hi hc' h2 (next_BO FU _ (reset_inv hv') (hc'.of rfl rfl rfl) rfl)).toTS hc' rfl
  · refine TS.same hc' ⟨fun _ ho => ?_, fun h => absurd (h1.symm.trans h) (by decide), fun h => absurd (h1.symm.trans h) (by decide)⟩ rfl
    show upd s.go n.toNat false s.owner.toNat = false
    unfold upd
    split
    · rfl
    · exact hw.b h1 ho
theorem gotS_core (h : JT s) (hw : s.wt = 2) : Core (gotS s n op) := by
  have hc := h.core
  have hd := h.wt.d hw
  have hx0 := h.p2.post.inv.x.1
  have grow : ∀ {t : St} {i : Nat}, Core t → Core { t with sh := upd t.sh i true } := fun {t i} ht => ⟨fun ho => by
    rcases ht.own ho with h | h
    · exact .inl h
    · refine .inr ?_
      show upd t.sh i true t.owner.toNat = true
      unfold upd
      split
      · rfl
      · exact h, ht.ex⟩
  have gA : ∀ {t : St}, Core t → Core (gotA t n op) := fun {t} ht => (grow (i := n.toNat) ht).of rfl rfl rfl
  have gB : (0 ≤ s.x → s.su = s.x) → Core (gotB s op) := fun hsu => ⟨fun ho => by
    have ho' : 0 ≤ s.owner := ho
    refine .inr ?_
    show upd s.sh s.su.toNat true s.owner.toNat = true
    unfold upd
    split
    · rfl
    · rename_i hne
      rcases hc.own ho' with h | h
      · exact absurd (by rw [hsu (by omega), h]) hne
      · exact h, fun hx => absurd hx (by show ¬ (0 : Int) ≤ -1; decide)⟩
  have gC : ∀ {t : St}, Core (gotC t n op) := fun {t} => ⟨fun _ => .inl rfl, fun _ => rfl⟩
  unfold gotS
  split
  · rename_i h1
    split
    · exact gA hc
    · split
      · exact gA (gB (hd h1))
      · split
        · exact gA (gB (hd h1))
        · exact gA hc
  · split
    · exact gC
    · split
      · exact gC
      · exact gC
theorem got_BO (h : JT s) (hc : s.wt = 2 ∧ op = s.op ∧ n = s.hn) : BO (reset (gotS s n op)) (nextM FU (reset (gotS s n op))) := by
  have ⟨b1, _⟩ := h.p2.post.busy (by rw [hc.1]; decide)
  have ⟨hv, _, _⟩ := gotS_inv (n := n) (op := op) h.p2.post.inv (by have := b1.1; have := b1.2; omega)
  exact next_BO FU _ (reset_inv hv) ((gotS_core h hc.1).of rfl rfl rfl) rfl
theorem gotS_pa (s : St) (n op : Int) : Sub s.pa (gotS s n op).pa := by
  unfold gotS
  repeat' split
  all_goals first | exact fun _ _ h => h | exact sub_true (fun _ _ h => h) _
theorem got_TS (h : JT s) : TS s (gotM s n op) := by
  unfold gotM
  split
  · rename_i hc
    have b := got_BO h hc
    exact ⟨(gotS_core h hc.1).of b.x b.sh b.owner, b.wt, fun p hp => b.pa p fun i hi hh => gotS_pa s n op i hi (hp i hi hh), b.to⟩
  · exact h.keep
theorem relS_core (hc : Core s) (_hx0 : -1 ≤ s.x) (hn : 0 ≤ n ∧ n < 8) : Core (relS s n) := by
  refine ⟨fun ho => ?_, fun hx => ?_⟩
  · have ho' : 0 ≤ (if s.owner = n then (-1 : Int) else s.owner) := ho
    by_cases e : s.owner = n
    · rw [if_pos e] at ho'; omega
    · rw [if_neg e] at ho'
      show (if s.x = n then (-1 : Int) else s.x) = (if s.owner = n then (-1 : Int) else s.owner) ∨ upd s.sh n.toNat false (if s.owner = n then (-1 : Int) else s.owner).toNat = true
      rw [if_neg e]
      rcases hc.own ho' with h | h
      · left; rw [if_neg (by omega)]; exact h
      · right
        unfold upd
        rw [if_neg (by omega)]
        exact h
  · have hx' : 0 ≤ (if s.x = n then (-1 : Int) else s.x) := hx
    by_cases e : s.x = n
    · rw [if_pos e] at hx'; omega
    · rw [if_neg e] at hx'
      have := hc.ex hx'
      show (if s.owner = n then (-1 : Int) else s.owner) = (if s.x = n then (-1 : Int) else s.x)
      rw [this]
theorem relS_wt (hw : Wt s) : Wt (relS s n) := by
  have own : 0 ≤ (relS s n).owner → (relS s n).owner = s.owner := fun h => by
    have h' : 0 ≤ (if s.owner = n then (-1 : Int) else s.owner) := h
    show (if s.owner = n then (-1 : Int) else s.owner) = s.owner
    by_cases e : s.owner = n
    · rw [if_pos e] at h'; omega
    · rw [if_neg e]
  have ex : 0 ≤ (relS s n).x → (relS s n).x = s.x := fun h => by
    have h' : 0 ≤ (if s.x = n then (-1 : Int) else s.x) := h
    show (if s.x = n then (-1 : Int) else s.x) = s.x
    by_cases e : s.x = n
    · rw [if_pos e] at h'; omega
    · rw [if_neg e]
  refine ⟨fun h1 ho => ?_, fun h1 h2 ho hh => ?_, fun h1 h2 hx => ?_⟩
  · have e := own ho
    rw [e] at ho ⊢
    exact hw.b h1 ho
  · have e := own ho
    rw [e] at ho hh ⊢
    exact hw.c h1 h2 ho hh
  · have e := ex hx
    rw [e] at hx ⊢
    exact hw.d h1 h2 hx
theorem rel_TS (h : JT s) (hb : s.op + s.line.length ≤ 900) : TS s (relM s n op) := by
  have hop := h.p2.post.inv.op
  have hv := relS_inv (n := n) h.p2.post.inv
  unfold relM
  split
  · rename_i hn
    have hc := relS_core h.core h.p2.post.inv.x.1 hn
    have hw := relS_wt (n := n) h.wt
    split
    · rename_i h1
      have ⟨b1, _⟩ := h.p2.post.busy (by rw [h1.1]; decide)
      have t := left_TS (s := relS s n) hv b1 hc hw (h.p2.kd.1 h1.1) h1.1 hn h1.2
      exact ⟨t.core, t.wt, t.pa, t.to⟩
    · split
      · rename_i h2
        have ⟨b1, _⟩ := h.p2.post.busy (by rw [h2.1]; decide)
        have hop2 : 0 ≤ s.op + 1 ∧ s.op + 1 + s.line.length < 4611686018427387904 := by omega
        have hv' : Inv { relS s n with op := s.op + 1 } := ⟨hv.x, hv.owner, hv.su, hop2, hv.line⟩
        have hc' : Core { relS s n with op := s.op + 1 } := hc.of rfl rfl rfl
        have hnx := next_BO FU (reset { relS s n with op := s.op + 1 }) (reset_inv hv') (hc.of rfl rfl rfl) rfl
        split
        · rename_i hk
          have b := beginS_BO (nx := nextM FU) (s := { relS s n with op := s.op + 1 }) hv' hk hnx
          exact ⟨hc'.of b.x b.sh b.owner, b.wt, b.pa, b.to⟩
        · rename_i hk
          have b := beginE_BO (nx := nextM FU) (s := { relS s n with op := s.op + 1 }) hv' b1 hc' ((h.p2.kd.2 h2.1).resolve_left hk) hnx
          exact ⟨hc'.of b.x b.sh b.owner, b.wt, b.pa, b.to⟩
      · split
        · rename_i h3
          have ⟨b1, _⟩ := h.p2.post.busy (by rw [h3.1]; decide)
          have b := needM_BO (nx := nextM FU) (s := relS s n) b1 (by show (if s.owner = n then (-1 : Int) else s.owner) = -1; rw [if_pos h3.2]) fun pa => next_BO FU _ (reset_inv (invPa hv pa)) (hc.of rfl rfl rfl) rfl
          exact ⟨hc.of b.x b.sh b.owner, b.wt, b.pa, b.to⟩
        · exact TS.same hc hw rfl
  · exact h.keep
theorem mem_listTo {f : Nat → Bool} {i : Int} : ∀ (k : Nat), i ∈ listTo f k → 0 ≤ i ∧ i < k
  | 0, h => by cases h
  | k + 1, h => by
    simp only [listTo] at h
    split at h
    · rcases List.mem_append.1 h with h | h
      · have := mem_listTo k h; omega
      · obtain rfl := List.mem_singleton.1 h; omega
    · have := mem_listTo k h; omega
theorem discs_to {l : List Int} {f : Nat → Bool} (hl : l = listTo f 8) : ∀ x ∈ discs psn l, x.kind = 6 → 0 ≤ x.to ∧ x.to < 8 := fun x hx _ => by
  obtain ⟨i, hi, rfl⟩ := List.mem_map.1 hx
  rw [hl] at hi
  exact mem_listTo 8 hi
theorem markD_le (p : Nat → Bool) : ∀ (l : List Ord), Sub (markD p l) p
  | [], _, _, h => h
  | x :: l, n, hn, h => by
    simp only [markD] at h
    have h1 := markD_le _ l n hn h
    split at h1
    · unfold upd at h1
      split at h1
      · cases h1
      · exact h1
    · exact h1
theorem markD_discs (p : Nat → Bool) (n : Nat) (hn : n < 8) : ∀ (l : List Int), ((n : Int) ∈ l) → markD p (discs psn l) n = false
  | [], h => by cases h
  | a :: l, h => by
    have e : discs psn (a :: l) = ⟨6, a, 0, 0, 0, psn⟩ :: discs psn l := rfl
    rw [e]
    show markD (if (6 : Int) = 6 then upd p a.toNat false else p) (discs psn l) n = false
    rw [if_pos rfl]
    rcases List.mem_cons.1 h with rfl | h
    · cases hm : markD (upd p ((n : Int)).toNat false) (discs psn l) n with
      | false => rfl
      | true =>
        have := markD_le _ _ n hn hm
        unfold upd at this
        rw [if_pos (by omega)] at this
        cases this
    · exact markD_discs _ n hn l h
theorem wroteS_core (hc : Core s) (ho : s.owner = n) : Core (wroteS s n) := by
  refine ⟨fun h => ?_, fun hx => ?_⟩
  · have h' : 0 ≤ (if s.x = n then s.owner else (-1 : Int)) := h
    by_cases e : s.x = n
    · left
      show s.x = (if s.x = n then s.owner else (-1 : Int))
      rw [if_pos e, e, ho]
    · rw [if_neg e] at h'; omega
  · have hx' : 0 ≤ s.x := hx
    have := hc.ex hx'
    show (if s.x = n then s.owner else (-1 : Int)) = s.x
    rw [if_pos (by omega)]; exact this
theorem wroteS_wt (hw : Wt s) : Wt (wroteS s n) := by
  have own : 0 ≤ (wroteS s n).owner → (wroteS s n).owner = s.owner := fun h => by
    have h' : 0 ≤ (if s.x = n then s.owner else (-1 : Int)) := h
    show (if s.x = n then s.owner else (-1 : Int)) = s.owner
    by_cases e : s.x = n
    · rw [if_pos e]
    · rw [if_neg e] at h'; omega
  refine ⟨fun h1 ho => ?_, fun h1 h2 ho hh => ?_, hw.d⟩
  · have e := own ho
    rw [e] at ho ⊢
    exact hw.b h1 ho
  · have e := own ho
    rw [e] at ho hh ⊢
    exact hw.c h1 h2 ho hh
theorem discs_all {p : Nat → Bool} (hp : Sub p s.pa) : Sub (markD p (discs psn (listTo s.pa 8))) fun _ => false := fun n hn h => by
  have h1 := markD_le p _ n hn h
  rw [markD_discs p n hn _ (lt_mem 8 hn (hp n hn h1))] at h
  cases h
theorem wrote_TS (h : JT s) : TS s (wroteM s n op psn) := by
  unfold wroteM
  split
  · split
    · rename_i h1
      have hc := wroteS_core h.core h1.1
      have b := next_BO FU (reset (wroteS s n)) (reset_inv (wroteS_inv h.p2.post.inv)) (hc.of rfl rfl rfl) rfl
      refine ⟨hc.of b.x b.sh b.owner, b.wt, fun p hp => ?_, fun x hx => ?_⟩
      · show Sub (markD p (discs psn (listTo s.pa 8) ++ _)) _
        rw [markD_app]
        exact b.pa _ (discs_all hp)
      · rcases List.mem_append.1 hx with hx | hx
        · exact discs_to rfl x hx
        · exact b.to x hx
    · show TS s (wroteT s n op, discs psn (listTo s.pa 8))
      unfold wroteT
      split
      · rename_i ho
        split
        · exact ⟨wroteS_core h.core ho, wroteS_wt h.wt, fun p hp => discs_all hp, discs_to rfl⟩
        · exact ⟨h.core, h.wt, fun p hp i hi hh => hp i hi (markD_le p _ i hi hh), discs_to rfl⟩
      · exact ⟨h.core, h.wt, fun p hp i hi hh => hp i hi (markD_le p _ i hi hh), discs_to rfl⟩
  · exact h.keep
theorem do_TS (h : JT s) (hb : s.op + s.line.length ≤ 900) : TS s (doM s k n m op psn) := by
  unfold doM
  split
  · unfold wantM
    split
    · rename_i hc; exact wish_TS h hb hc.1 (by omega)
    · exact h.keep
  split
  · unfold cleanM
    split
    · rename_i hc; exact wish_TS h hb hc (by omega)
    · exact h.keep
  split
  · unfold goneMM
    split
    · rename_i hc
      have ⟨b1, _⟩ := h.p2.post.busy (by rw [hc.2.1]; decide)
      exact left_TS h.p2.post.inv b1 h.core h.wt (h.p2.kd.1 hc.2.1) hc.2.1 hc.1 hc.2.2.2
    · exact h.keep
  split
  · exact got_TS h
  split
  · exact rel_TS h hb
  split
  · exact wrote_TS h
  · exact h.keep
theorem got_past (h : JT s) (h1 : 0 ≤ s.owner) (h2 : 0 ≤ (gotM s n op).1.owner) (h3 : s.owner ≠ (gotM s n op).1.owner) : (gotM s n op).1.pa s.owner.toNat = true := by
  by_cases hc : s.wt = 2 ∧ op = s.op ∧ n = s.hn
  · have b := got_BO h hc
    have e : gotM s n op = nextM FU (reset (gotS s n op)) := by unfold gotM; rw [if_pos hc]
    rw [e] at h2 h3 ⊢
    rw [b.owner] at h2 h3
    have hub := h.p2.post.inv.owner
    refine b.grow h2 s.owner.toNat (by omega) ?_
    show (gotS s n op).pa s.owner.toNat = true
    have h3' : s.owner ≠ (gotS s n op).owner := h3
    have hkd := h.p2.kd.2 hc.1
    unfold gotS at h3' ⊢
    by_cases hk : s.hk = 1
    · rw [if_pos hk] at h3'
      exfalso
      apply h3'
      repeat' split
      all_goals rfl
    · rw [if_neg hk] at h3' ⊢
      have hne : s.owner ≠ n := by
        intro hh
        apply h3'
        by_cases c1 : s.su = -1
        · rw [if_pos c1]; exact hh
        · rw [if_neg c1]
          by_cases c2 : s.su = s.owner
          · rw [if_pos c2]; exact hh
          · rw [if_neg c2]; exact hh
      have hsu := h.wt.c hc.1 (hkd.resolve_left hk) h1 (by rw [← hc.2.2]; exact hne)
      rw [if_neg (by omega), if_pos hsu]
      show upd s.pa s.su.toNat true s.owner.toNat = true
      unfold upd
      rw [if_pos (by rw [hsu])]
  · have e : gotM s n op = (s, []) := by unfold gotM; rw [if_neg hc]
    rw [e] at h3
    exact absurd rfl h3
end
structure JP (s : St) (p : Nat → Bool) : Prop where
  t : JT s
  sub : Sub p s.pa
theorem pasts_plain (s : St) (p : Nat → Bool) (k n m op psn : Int) (h : JP s p) (hb : s.op + s.line.length ≤ 900) : JP (doM s k n m op psn).1 (pastM p s (doM s k n m op psn).1 k (doM s k n m op psn).2) ∧ ∀ x ∈ (doM s k n m op psn).2, x.kind = 6 → 0 ≤ x.to ∧ x.to < 8 := by
  have t := do_TS (k := k) (n := n) (m := m) (op := op) (psn := psn) h.t hb
  obtain ⟨_, hp, _⟩ := do_ctr h.t.p2 hb k n m op psn
  refine ⟨⟨⟨hp, t.core, t.wt⟩, ?_⟩, t.to⟩
  have hsub := t.pa p h.sub
  unfold pastM
  split
  · rename_i hc
    obtain ⟨h1, h2, h3, h4, _⟩ := hc
    have e : doM s k n m op psn = gotM s n (opM s op) := by unfold doM; rw [if_neg (by omega), if_neg (by omega), if_neg (by omega), if_pos h4]
    intro i hi hh
    unfold upd at hh
    by_cases hio : i = s.owner.toNat
    · subst hio
      rw [e] at h2 h3 ⊢
      exact got_past h.t h1 h2 h3
    · rw [if_neg hio] at hh
      exact hsub i hi hh
  · exact hsub
theorem newS_JP : JP newS fun _ => false := ⟨⟨newS_P2, ⟨fun h => absurd h (by decide), fun h => absurd h (by decide)⟩, Wt.none (by decide) (by decide)⟩, fun _ _ h => by cases h⟩
theorem pasts_all_ctr (T : TypeId) (sts : List Stp) (cp : Nat) : Ctr Try.prog 4 [.slice (some ⟨5, 0, none⟩) sts.length cp] [(5, .row T (.lst (encS sts)) true)] (.bool true) [] := pasts_ctr pasts_plain (fun _ _ h => ⟨h.t.p2, h.sub⟩) newS_JP T sts cp
end Go.Proofs.Ytjpgnjaobfbojaa

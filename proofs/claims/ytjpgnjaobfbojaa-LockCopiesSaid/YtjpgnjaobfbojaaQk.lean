import Derived.Test.YtjpgnjaobfbojaaQj
namespace Go.Proofs.Ytjpgnjaobfbojaa
open Go.Sx
def FU : Nat := 1000
def wishM (s : St) (n k : Int) : St × List Ord :=
  if s.wt = 0 then nextM FU { s with line := [(n, k)] } else if s.hn = n ∧ s.hk = k then (s, []) else if (n, k) ∈ s.line then (s, []) else ({ s with line := s.line ++ [(n, k)] }, [])
def wantM (s : St) (n m : Int) : St × List Ord := if (0 ≤ n ∧ n < 8) ∧ (m = 1 ∨ m = 2) then wishM s n m else (s, [])
def cleanM (s : St) (n : Int) : St × List Ord := if 0 ≤ n ∧ n < 8 then wishM s n 3 else (s, [])
def leftM (s : St) (n : Int) : St × List Ord := if allOff (upd s.go n.toNat false) = true then beginE (nextM FU) (leftS s n) else (leftS s n, [])
def goneMM (s : St) (n op : Int) : St × List Ord := if (0 ≤ n ∧ n < 8) ∧ s.wt = 1 ∧ op = s.op ∧ s.go n.toNat = true then leftM s n else (s, [])
def gotM (s : St) (n op : Int) : St × List Ord := if s.wt = 2 ∧ op = s.op ∧ n = s.hn then nextM FU (reset (gotS s n op)) else (s, [])
def relM (s : St) (n op : Int) : St × List Ord :=
  if 0 ≤ n ∧ n < 8 then
    (if s.wt = 1 ∧ s.go n.toNat = true then leftM (relS s n) n
     else if s.wt = 2 ∧ s.su = n ∧ op < s.op then (if s.hk = 1 then beginS (nextM FU) { relS s n with op := s.op + 1 } else beginE (nextM FU) { relS s n with op := s.op + 1 })
     else if s.wt = 3 ∧ s.owner = n then needM (nextM FU) (relS s n) else (relS s n, []))
  else (s, [])
def wroteM (s : St) (n op psn : Int) : St × List Ord :=
  if (0 ≤ n ∧ n < 8) ∧ 0 ≤ psn ∧ psn ≤ 2147483647 then
    (if s.owner = n ∧ s.ops n.toNat = op ∧ s.wt = 3 then ((nextM FU (reset (wroteS s n))).1, discs psn (listTo s.pa 8) ++ (nextM FU (reset (wroteS s n))).2) else (wroteT s n op, discs psn (listTo s.pa 8)))
  else (s, [])
structure StepR (s : St) (r : St × List Ord) : Prop where
  post : Post r.1
  tot : r.1.op + r.1.line.length ≤ s.op + s.line.length + 1
  op : s.op ≤ r.1.op
  len : r.2.length ≤ s.line.length + 20
theorem StepR.keep {s : St} (hp : Post s) : StepR s (s, []) := ⟨hp, by show s.op + s.line.length ≤ _; omega, Int.le_refl _, Nat.zero_le _⟩
theorem StepR.of_res {s u : St} {b : Nat} {r : St × List Ord} (h : Res b u r) (hb : b ≤ 20) (hl : u.line.length ≤ s.line.length) (ht : u.op + u.line.length ≤ s.op + s.line.length + 1) (ho : s.op ≤ u.op) : StepR s r := by
  have h1 := h.tot
  have h2 := h.op
  have h3 := h.len
  exact ⟨h.post, by omega, by omega, by omega⟩
theorem next_of {s : St} (hv : Inv s) (hl : s.line.length ≤ 1000) : Next (nextM FU) s := fun pa =>
  next_ctr FU (reset { s with pa := pa }) hl (by unfold FU; omega) (reset_inv (s := { s with pa := pa }) ⟨hv.x, hv.owner, hv.su, hv.op, hv.line⟩) rfl
theorem needM_ctr {nx : St → St × List Ord} {u : St} (hi : Hand u) (hl : u.line.length < 10000) (hn : Next nx u) : MC 69 [] u (needM nx u).1 (needM nx u).2 ∧ Res 10 u (needM nx u) := by
  have ⟨h1, h2⟩ := hn (upd u.pa u.hn.toNat false)
  have h3 : (nx (reset { u with pa := upd u.pa u.hn.toNat false })).2.length ≤ u.line.length + 9 := h2.len
  have h4 : (nx (reset { u with pa := upd u.pa u.hn.toNat false })).2.length < 1000000 := by omega
  exact ⟨needless_ctr hi h4 (done_ctr h1), ⟨h2.post, h2.tot, h2.op, Nat.succ_le_succ h3⟩⟩
variable {s : St}
theorem wish_ctr {n k : Int} (hp : Post s) (hb : s.op + s.line.length ≤ 900) (hn : 0 ≤ n ∧ n < 8) (hk : 1 ≤ k ∧ k ≤ 3) : MC 65 [.agg #[.int .i64 n, .int .i64 k]] s (wishM s n k).1 (wishM s n k).2 ∧ StepR s (wishM s n k) := by
  have hop := hp.inv.op
  unfold wishM
  by_cases hw : s.wt = 0
  · rw [if_pos hw]
    have ⟨hl, hr⟩ := hp.idle hw
    have hv : Inv { s with line := [(n, k)] } := ⟨hp.inv.x, hp.inv.owner, hp.inv.su, by show 0 ≤ s.op ∧ s.op + ((1 : Nat) : Int) < 4611686018427387904; omega, fun w hw => by
      obtain rfl := List.mem_singleton.1 hw
      exact ⟨hn.1, hn.2, hk.1, hk.2⟩⟩
    have hr2 : reset { s with line := [(n, k)] } = { s with line := [(n, k)] } := by
      have : reset { s with line := [(n, k)] } = { reset s with line := [(n, k)] } := rfl
      rw [this, hr]
    have ⟨h1, h2⟩ := next_ctr FU { s with line := [(n, k)] } (by show 1 ≤ 1000; omega) (by unfold FU; omega) hv hr2
    have e1 : { s with wt := 0, line := [(n, k)] } = { s with line := [(n, k)] } := by
      cases s; simp only at hw; subst hw; rfl
    have e2 : { s with wt := 0, line := [] } = s := by
      cases s; simp only at hw hl; subst hw; subst hl; rfl
    refine ⟨?_, ?_⟩
    · have := wish_begin (s := s) (n := n) (k := k) (by simp) (by simp) (by rw [e1]; exact h1)
      rw [e2] at this; exact this
    · have h3 := h2.tot
      have h4 := h2.op
      have h5 := h2.len
      exact ⟨h2.post, by rw [h3, hl]; show s.op + ((1 : Nat) : Int) ≤ s.op + ((0 : Nat) : Int) + 1; omega, h4, Nat.le_trans h5 (by show 1 + 9 ≤ _; omega)⟩
  · rw [if_neg hw]
    by_cases hh : s.hn = n ∧ s.hk = k
    · rw [if_pos hh]
      exact ⟨wish_hand hw hh, StepR.keep hp⟩
    · rw [if_neg hh]
      by_cases hm : (n, k) ∈ s.line
      · rw [if_pos hm]
        exact ⟨wish_line hw hh (by omega) hm, StepR.keep hp⟩
      · rw [if_neg hm]
        have hlen : (s.line ++ [(n, k)]).length = s.line.length + 1 := by simp
        refine ⟨?_, ⟨⟨⟨hp.inv.x, hp.inv.owner, hp.inv.su, ?_, ?_⟩, fun h => absurd h hw, hp.busy⟩, ?_, Int.le_refl _, Nat.zero_le _⟩⟩
        · cases hl : s.line with
          | nil =>
            have e : { s with line := [] } = s := by cases s; simp only at hl; subst hl; rfl
            have := wish_end_nil hw hh (by simp) (by simp)
            rw [e] at this; exact this
          | cons y r =>
            rw [hl] at hm hop hb
            have e : { s with line := y :: r } = s := by cases s; simp only at hl; subst hl; rfl
            have := wish_end_cons (y := y) (r := r) hw hh (by omega) hm
            rw [e] at this; exact this
        · show 0 ≤ s.op ∧ s.op + ((s.line ++ [(n, k)]).length : Int) < 4611686018427387904
          rw [hlen]; omega
        · intro w hw2
          rcases List.mem_append.1 hw2 with h | h
          · exact hp.inv.line w h
          · obtain rfl := List.mem_singleton.1 h
            exact ⟨hn.1, hn.2, hk.1, hk.2⟩
        · show s.op + ((s.line ++ [(n, k)]).length : Int) ≤ _
          rw [hlen]; omega
theorem want_ctr {n m : Int} (hp : Post s) (hb : s.op + s.line.length ≤ 900) : MC 24 [.int .i64 n, .int .i64 m] s (wantM s n m).1 (wantM s n m).2 ∧ StepR s (wantM s n m) := by
  unfold wantM
  by_cases h : (0 ≤ n ∧ n < 8) ∧ (m = 1 ∨ m = 2)
  · rw [if_pos h]
    obtain ⟨h1, h2⟩ := h
    have ⟨h3, h4⟩ := wish_ctr (n := n) (k := m) hp hb h1 (by omega)
    refine ⟨?_, h4⟩
    rcases h2 with h2 | h2
    · exact want_1 h1 h2 (by rw [h2] at h3 ⊢; exact h3)
    · exact want_2 h1 h2 (by rw [h2] at h3 ⊢; exact h3)
  · rw [if_neg h]
    exact ⟨want_out h, StepR.keep hp⟩
theorem clean_ctr {n : Int} (hp : Post s) (hb : s.op + s.line.length ≤ 900) : MC 25 [.int .i64 n] s (cleanM s n).1 (cleanM s n).2 ∧ StepR s (cleanM s n) := by
  unfold cleanM
  by_cases h : 0 ≤ n ∧ n < 8
  · rw [if_pos h]
    have ⟨h3, h4⟩ := wish_ctr (n := n) (k := 3) hp hb h (by omega)
    exact ⟨clean_in h h3, h4⟩
  · rw [if_neg h]
    exact ⟨clean_out h, StepR.keep hp⟩
theorem left_ctr {n : Int} (hv : Inv s) (hh : Hand s) (hk : 1 ≤ s.hk ∧ s.hk ≤ 3) (hw : 1 ≤ s.wt ∧ s.wt ≤ 3) (hb : s.op + s.line.length ≤ 900) (hn : 0 ≤ n ∧ n < 8) : MC 66 [.int .i64 n] s (leftM s n).1 (leftM s n).2 ∧ StepR s (leftM s n) := by
  have hop := hv.op
  have hv' : Inv (leftS s n) := ⟨hv.x, hv.owner, hv.su, hv.op, hv.line⟩
  unfold leftM
  by_cases hg : allOff (upd s.go n.toNat false) = true
  · rw [if_pos hg]
    have ⟨h1, h2⟩ := beginE_ctr (nx := nextM FU) (s := leftS s n) hv' hh hk (next_of hv' (by show s.line.length ≤ 1000; omega))
    exact ⟨left_all hn hg h1, StepR.of_res h2 (by omega) (Nat.le_refl _) (by show s.op + s.line.length ≤ _; omega) (Int.le_refl _)⟩
  · rw [if_neg hg]
    exact ⟨left_more hn (Bool.eq_false_iff.2 hg), ⟨⟨hv', fun h => by have : s.wt = 0 := h; omega, fun _ => ⟨hh, hk.1, hk.2, hw.1, hw.2⟩⟩, by show s.op + s.line.length ≤ _; omega, Int.le_refl _, Nat.zero_le _⟩⟩
theorem gone_ctr {n op : Int} (hp : Post s) (hb : s.op + s.line.length ≤ 900) : MC 30 [.int .i64 n, .int .i64 op] s (goneMM s n op).1 (goneMM s n op).2 ∧ StepR s (goneMM s n op) := by
  unfold goneMM
  by_cases h : (0 ≤ n ∧ n < 8) ∧ s.wt = 1 ∧ op = s.op ∧ s.go n.toNat = true
  · rw [if_pos h]
    have ⟨b1, b2, b3, b4, b5⟩ := hp.busy (by rw [h.2.1]; omega)
    have ⟨h3, h4⟩ := left_ctr (n := n) hp.inv b1 ⟨b2, b3⟩ ⟨b4, b5⟩ hb h.1
    exact ⟨gone_in h h3, h4⟩
  · rw [if_neg h]
    exact ⟨gone_out h, StepR.keep hp⟩
theorem gotS_inv {n op : Int} (hv : Inv s) (hn : 0 ≤ n ∧ n < 8) : Inv (gotS s n op) ∧ (gotS s n op).op = s.op ∧ (gotS s n op).line = s.line := by
  have hx : (-1 : Int) ≤ -1 ∧ (-1 : Int) < 8 := by omega
  have hn' : -1 ≤ n ∧ n < 8 := by omega
  unfold gotS
  repeat' split
  · exact ⟨⟨hv.x, hv.owner, hv.su, hv.op, hv.line⟩, rfl, rfl⟩
  · exact ⟨⟨hx, hv.owner, hv.su, hv.op, hv.line⟩, rfl, rfl⟩
  · exact ⟨⟨hx, hv.owner, hv.su, hv.op, hv.line⟩, rfl, rfl⟩
  · exact ⟨⟨hv.x, hv.owner, hv.su, hv.op, hv.line⟩, rfl, rfl⟩
  · exact ⟨⟨hn', hn', hv.su, hv.op, hv.line⟩, rfl, rfl⟩
  · exact ⟨⟨hn', hn', hv.su, hv.op, hv.line⟩, rfl, rfl⟩
  · exact ⟨⟨hn', hn', hv.su, hv.op, hv.line⟩, rfl, rfl⟩
theorem got_ctr {n op : Int} (hp : Post s) (hb : s.op + s.line.length ≤ 900) : MC 31 [.int .i64 n, .int .i64 op] s (gotM s n op).1 (gotM s n op).2 ∧ StepR s (gotM s n op) := by
  have hop := hp.inv.op
  unfold gotM
  by_cases h : s.wt = 2 ∧ op = s.op ∧ n = s.hn
  · rw [if_pos h]
    have ⟨b1, b2, b3, b4, b5⟩ := hp.busy (by rw [h.1]; omega)
    have ⟨hv, e1, e2⟩ := gotS_inv (n := n) (op := op) hp.inv (by have := b1.1; have := b1.2; omega)
    have ⟨h1, h2⟩ := next_of hv (by rw [e2]; omega) (gotS s n op).pa
    refine ⟨got_in ⟨b1.1, b1.2⟩ hp.inv.su h (done_ctr h1), ?_⟩
    have e3 : (reset (gotS s n op)).line = s.line := e2
    have e4 : (reset (gotS s n op)).op = s.op := e1
    exact StepR.of_res h2 (by omega) (by show (reset (gotS s n op)).line.length ≤ _; rw [e3]; exact Nat.le_refl _) (by show (reset (gotS s n op)).op + (reset (gotS s n op)).line.length ≤ _; rw [e3, e4]; omega) (by show _ ≤ (reset (gotS s n op)).op; rw [e4]; exact Int.le_refl _)
  · rw [if_neg h]
    exact ⟨got_out (fun h => (hp.busy (by rw [h]; omega)).1) hp.inv.su h, StepR.keep hp⟩
theorem relS_inv {n : Int} (hv : Inv s) : Inv (relS s n) := by
  have hx := hv.x
  have ho := hv.owner
  refine ⟨?_, ?_, hv.su, hv.op, hv.line⟩
  · show -1 ≤ (if s.x = n then (-1 : Int) else s.x) ∧ (if s.x = n then (-1 : Int) else s.x) < 8
    split <;> omega
  · show -1 ≤ (if s.owner = n then (-1 : Int) else s.owner) ∧ (if s.owner = n then (-1 : Int) else s.owner) < 8
    split <;> omega
theorem rel_ctr {n op : Int} (hp : Post s) (hb : s.op + s.line.length ≤ 900) : MC 26 [.int .i64 n, .int .i64 op] s (relM s n op).1 (relM s n op).2 ∧ StepR s (relM s n op) := by
  have hop := hp.inv.op
  have hv := relS_inv (n := n) hp.inv
  unfold relM
  by_cases hn : 0 ≤ n ∧ n < 8
  · rw [if_pos hn]
    by_cases h1 : s.wt = 1 ∧ s.go n.toNat = true
    · rw [if_pos h1]
      have ⟨b1, b2, b3, b4, b5⟩ := hp.busy (by rw [h1.1]; omega)
      have ⟨h3, h4⟩ := left_ctr (s := relS s n) (n := n) hv b1 ⟨b2, b3⟩ ⟨b4, b5⟩ hb hn
      exact ⟨rel_left (by omega) ⟨hn, h1⟩ h3, ⟨h4.post, h4.tot, h4.op, h4.len⟩⟩
    · rw [if_neg h1]
      by_cases h2 : s.wt = 2 ∧ s.su = n ∧ op < s.op
      · rw [if_pos h2]
        have ⟨b1, b2, b3, b4, b5⟩ := hp.busy (by rw [h2.1]; omega)
        have hv' : Inv { relS s n with op := s.op + 1 } := ⟨hv.x, hv.owner, hv.su, by show 0 ≤ s.op + 1 ∧ s.op + 1 + s.line.length < 4611686018427387904; omega, hv.line⟩
        have hnx := next_of hv' (by show s.line.length ≤ 1000; omega)
        by_cases hk : s.hk = 1
        · rw [if_pos hk]
          have ⟨h3, h4⟩ := beginS_ctr hv' b1 ⟨b2, b3⟩ hnx
          exact ⟨rel_sh (by omega) ⟨hn, h2.1, h2.2.1, h2.2.2, hk⟩ h3, StepR.of_res h4 (by omega) (Nat.le_refl _) (by show s.op + 1 + s.line.length ≤ _; omega) (by show s.op ≤ s.op + 1; omega)⟩
        · rw [if_neg hk]
          have ⟨h3, h4⟩ := beginE_ctr hv' b1 ⟨b2, b3⟩ hnx
          exact ⟨rel_ex (by omega) ⟨hn, h2.1, h2.2.1, h2.2.2, hk⟩ h3, StepR.of_res h4 (by omega) (Nat.le_refl _) (by show s.op + 1 + s.line.length ≤ _; omega) (by show s.op ≤ s.op + 1; omega)⟩
      · rw [if_neg h2]
        by_cases h3 : s.wt = 3 ∧ s.owner = n
        · rw [if_pos h3]
          have ⟨b1, b2, b3, b4, b5⟩ := hp.busy (by rw [h3.1]; omega)
          have ⟨h4, h5⟩ := needM_ctr (u := relS s n) b1 (by show s.line.length < 10000; omega) (next_of hv (by show s.line.length ≤ 1000; omega))
          exact ⟨rel_need (by omega) ⟨hn, h3⟩ h4, StepR.of_res h5 (by omega) (Nat.le_refl _) (by show s.op + s.line.length ≤ _; omega) (Int.le_refl _)⟩
        · rw [if_neg h3]
          refine ⟨rel_nil ⟨hn, h1, h2, h3⟩, ⟨⟨hv, fun h => ?_, hp.busy⟩, by show s.op + s.line.length ≤ _; omega, Int.le_refl _, Nat.zero_le _⟩⟩
          have ⟨h5, h6⟩ := hp.idle h
          refine ⟨h5, ?_⟩
          have : reset (relS s n) = relS (reset s) n := rfl
          rw [this, h6]
  · rw [if_neg hn]
    exact ⟨rel_out hn, StepR.keep hp⟩
theorem discs_len (psn : Int) (l : List Int) : (discs psn l).length = l.length := by unfold discs; rw [List.length_map]
theorem wroteS_inv {n : Int} (hv : Inv s) : Inv (wroteS s n) := by
  have ho := hv.owner
  refine ⟨hv.x, ?_, hv.su, hv.op, hv.line⟩
  show -1 ≤ (if s.x = n then s.owner else (-1 : Int)) ∧ (if s.x = n then s.owner else (-1 : Int)) < 8
  split <;> omega
theorem wroteS_post {n : Int} (hp : Post s) : Post (wroteS s n) := ⟨wroteS_inv hp.inv, fun h => by
  have ⟨h1, h2⟩ := hp.idle h
  refine ⟨h1, ?_⟩
  have : reset (wroteS s n) = wroteS (reset s) n := rfl
  rw [this, h2], hp.busy⟩
theorem wroteT_post {n op : Int} (hp : Post s) : Post (wroteT s n op) ∧ (wroteT s n op).op = s.op ∧ (wroteT s n op).line = s.line := by
  unfold wroteT
  repeat' split
  · exact ⟨wroteS_post hp, rfl, rfl⟩
  · exact ⟨hp, rfl, rfl⟩
  · exact ⟨hp, rfl, rfl⟩
theorem wrote_ctr {n op psn : Int} (hp : Post s) (hb : s.op + s.line.length ≤ 900) : MC 32 [.int .i64 n, .int .i64 op, .int .i64 psn] s (wroteM s n op psn).1 (wroteM s n op psn).2 ∧ StepR s (wroteM s n op psn) := by
  have hop := hp.inv.op
  have hlen := listTo_len s.pa 8
  unfold wroteM
  by_cases hn : (0 ≤ n ∧ n < 8) ∧ 0 ≤ psn ∧ psn ≤ 2147483647
  · rw [if_pos hn]
    by_cases h1 : s.owner = n ∧ s.ops n.toNat = op ∧ s.wt = 3
    · rw [if_pos h1]
      have hv := wroteS_inv (n := n) hp.inv
      have ⟨h4, h5⟩ := next_of hv (by show s.line.length ≤ 1000; omega) (wroteS s n).pa
      have h6 : (nextM FU (reset (wroteS s n))).2.length ≤ s.line.length + 9 := h5.len
      have h7 : (nextM FU (reset (wroteS s n))).2.length < 1000000 := by omega
      have hm : MC 73 [] (wroteS s n) (nextM FU (reset (wroteS s n))).1 (nextM FU (reset (wroteS s n))).2 := done_ctr h4
      refine ⟨?_, ⟨h5.post, ?_, h5.op, ?_⟩⟩
      · show MC 32 _ s (nextM FU (reset (wroteS s n))).1 (discs psn (listTo s.pa 8) ++ (nextM FU (reset (wroteS s n))).2)
        rcases he : listTo s.pa 8 with _ | ⟨n0, _ | ⟨n1, _ | ⟨n2, _ | ⟨n3, _ | ⟨n4, _ | ⟨n5, _ | ⟨n6, _ | ⟨n7, _ | ⟨n8, l⟩⟩⟩⟩⟩⟩⟩⟩⟩
        · exact wrote_w0 h7 he ⟨hn.1, hn.2, h1⟩ hm
        · exact wrote_w1 h7 he ⟨hn.1, hn.2, h1⟩ hm
        · exact wrote_w2 h7 he ⟨hn.1, hn.2, h1⟩ hm
        · exact wrote_w3 h7 he ⟨hn.1, hn.2, h1⟩ hm
        · exact wrote_w4 h7 he ⟨hn.1, hn.2, h1⟩ hm
        · exact wrote_w5 h7 he ⟨hn.1, hn.2, h1⟩ hm
        · exact wrote_w6 h7 he ⟨hn.1, hn.2, h1⟩ hm
        · exact wrote_w7 h7 he ⟨hn.1, hn.2, h1⟩ hm
        · exact wrote_w8 h7 he ⟨hn.1, hn.2, h1⟩ hm
        · rw [he] at hlen
          simp only [List.length_cons] at hlen
          omega
      · have h8 : (nextM FU (reset (wroteS s n))).1.op + (nextM FU (reset (wroteS s n))).1.line.length = s.op + s.line.length := h5.tot
        show (nextM FU (reset (wroteS s n))).1.op + (nextM FU (reset (wroteS s n))).1.line.length ≤ _
        rw [h8]; omega
      · show (discs psn (listTo s.pa 8) ++ (nextM FU (reset (wroteS s n))).2).length ≤ _
        rw [List.length_append, discs_len]; omega
    · rw [if_neg h1]
      have ⟨hq, e1, e2⟩ := wroteT_post (n := n) (op := op) hp
      refine ⟨?_, ⟨hq, ?_, ?_, ?_⟩⟩
      · show MC 32 _ s (wroteT s n op) (discs psn (listTo s.pa 8))
        rcases he : listTo s.pa 8 with _ | ⟨n0, _ | ⟨n1, _ | ⟨n2, _ | ⟨n3, _ | ⟨n4, _ | ⟨n5, _ | ⟨n6, _ | ⟨n7, _ | ⟨n8, l⟩⟩⟩⟩⟩⟩⟩⟩⟩
        · exact wrote_t0 he ⟨hn.1, hn.2, h1⟩
        · exact wrote_t1 he ⟨hn.1, hn.2, h1⟩
        · exact wrote_t2 he ⟨hn.1, hn.2, h1⟩
        · exact wrote_t3 he ⟨hn.1, hn.2, h1⟩
        · exact wrote_t4 he ⟨hn.1, hn.2, h1⟩
        · exact wrote_t5 he ⟨hn.1, hn.2, h1⟩
        · exact wrote_t6 he ⟨hn.1, hn.2, h1⟩
        · exact wrote_t7 he ⟨hn.1, hn.2, h1⟩
        · exact wrote_t8 he ⟨hn.1, hn.2, h1⟩
        · rw [he] at hlen
          simp only [List.length_cons] at hlen
          omega
      · show (wroteT s n op).op + (wroteT s n op).line.length ≤ _
        rw [e1, e2]; omega
      · show _ ≤ (wroteT s n op).op
        rw [e1]; exact Int.le_refl _
      · show (discs psn (listTo s.pa 8)).length ≤ _
        rw [discs_len]; omega
  · rw [if_neg hn]
    exact ⟨wrote_out hn, StepR.keep hp⟩
end Go.Proofs.Ytjpgnjaobfbojaa
namespace Go.Proofs.Ytjpgnjaobfbojaa
open Go.Sx
section
variable (s : St) (lv : Value) (T : TypeId) {q : Nat}
end
def lowR (f : Nat → Bool) : Nat → Int
  | 0 => -1
  | k + 1 => if f (7 - k) = true then ((7 - k : Nat) : Int) else lowR f k
def lvN : Value := .slice none 0 0
def thirdR (s : St) : Int := if s.sh s.hn.toNat = true then -1 else lowR s.sh 8
def supplyR (s : St) : Int := if s.x ≥ 0 then s.x else if s.owner ≥ 0 then (if s.owner = s.hn then thirdR s else if s.sh s.owner.toNat = true then s.owner else thirdR s) else thirdR s
def finC (f : Nat → Bool) : Nat → Int → Int
  | 0, m => m
  | k + 1, m => finC f k (if f k = true then (k : Int) else m)
theorem finC_low (f : Nat → Bool) : finC f 8 (-1) = lowR f 8 := by
  simp only [finC, lowR, Nat.reduceSub]
end Go.Proofs.Ytjpgnjaobfbojaa
namespace Go.Proofs.Ytjpgnjaobfbojaa
open Go.Sx
theorem lowest_lowR (f : Nat → Bool) : lowest f = lowR f 8 := by
  unfold lowest
  simp only [listTo, lowR, Nat.reduceSub]
  cases h0 : f 0 <;> cases h1 : f 1 <;> cases h2 : f 2 <;> cases h3 : f 3 <;> cases h4 : f 4 <;> cases h5 : f 5 <;> cases h6 : f 6 <;> cases h7 : f 7 <;> rfl
theorem lowest_congr {f g : Nat → Bool} (h : ∀ k, k < 8 → f k = g k) : lowest f = lowest g := by
  rw [lowest_lowR, lowest_lowR]
  simp only [lowR, Nat.reduceSub]
  rw [h 0 (by omega), h 1 (by omega), h 2 (by omega), h 3 (by omega), h 4 (by omega), h 5 (by omega), h 6 (by omega), h 7 (by omega)]
theorem thirdR_eq {s : St} (hk : s.hk = 2 ∨ ¬ s.sh s.hn.toNat = true) : thirdR s = thirdP s := by
  have e : ¬ s.sh s.hn.toNat = true → lowest (upd s.sh s.hn.toNat false) = lowR s.sh 8 := by
    intro h
    rw [← lowest_lowR]
    refine lowest_congr fun k _ => ?_
    unfold upd
    split
    · rename_i e; rw [e]; exact (Bool.eq_false_iff.2 h).symm
    · rfl
  unfold thirdR thirdP
  by_cases h1 : s.sh s.hn.toNat = true
  · rw [if_pos h1]
    rcases hk with hk | hk
    · rw [if_pos hk, if_pos h1]
    · exact absurd h1 hk
  · rw [if_neg h1]
    split <;> exact (e h1).symm
theorem supplyR_eq {s : St} (hv : Inv s) (hk : s.hk = 2 ∨ ¬ s.sh s.hn.toNat = true) : supplyR s = supplyP s := by
  have hx := hv.x
  have ho := hv.owner
  unfold supplyR supplyP
  rw [thirdR_eq hk]
  by_cases h1 : s.x = -1
  · rw [if_pos h1, if_neg (by omega)]
    by_cases h2 : s.owner = -1
    · rw [if_pos h2, if_neg (by omega)]
    · rw [if_neg h2, if_pos (by omega)]
  · rw [if_neg h1, if_pos (by omega)]
end Go.Proofs.Ytjpgnjaobfbojaa
namespace Go.Proofs.Ytjpgnjaobfbojaa
open Go.Sx
def newS : St := { x := -1, owner := -1, sh := fun _ => false, pa := fun _ => false, ops := fun _ => 0, hn := 0, hk := 0, wt := 0, go := fun _ => false, su := -1, op := 0, line := [] }
end Go.Proofs.Ytjpgnjaobfbojaa
namespace Go.Proofs.Ytjpgnjaobfbojaa
open Go.Sx
theorem two_entry {d : Den} {g : FuncId} {e f : Entry} (h : @EntryOK d Try.prog g e) (h2 : @EntryOK d Try.prog g f) : ∀ x ∈ [e, f], @EntryOK d Try.prog g x := fun x hx => by
  rcases List.mem_cons.1 hx with rfl | hx
  · exact h
  · rw [List.mem_singleton.1 hx]; exact h2
end Go.Proofs.Ytjpgnjaobfbojaa
namespace Go.Proofs.Ytjpgnjaobfbojaa
open Go.Sx
theorem new_ctr : Ctr Try.prog 13 [] [] (.pointer (some ⟨0, 0, none⟩)) (lockA 1 newS) :=
  Ctr.path mixed (denG newS [] rfl [lvN] rfl [] no_rows) ⟨[], [], []⟩ [] trivial trivial trivial trivial
    (N := 200) (c0 := 0) (A0 := []) (args0 := []) (τ := [(1, 0), (0, 1)]) (ros := []) (by kernel_rfl) (by kernel_rfl) (by kernel_rfl)
theorem known_ctr : Ctr Try.prog 12 [] [] (.bool true) [] :=
  Ctr.path mixed (denG newS [] rfl [lvN] rfl [] no_rows) ⟨[], [], []⟩ [] trivial trivial trivial trivial
    (N := 100000) (c0 := 0) (A0 := []) (args0 := []) (τ := []) (ros := []) (by kernel_rfl) (by kernel_rfl) (by kernel_rfl)
end Go.Proofs.Ytjpgnjaobfbojaa
namespace Go.Proofs.Ytjpgnjaobfbojaa
open Go.Sx
inductive OV where
  | v (x : Value)
  | m (id n c : Nat)
def OV.val : OV → Value
  | .v x => x
  | .m id n c => mSl id n c
def OV.mo : OV → Option (Nat × Nat × Nat)
  | .v _ => none
  | .m id n c => some (id, n, c)
def OV.ok : OV → Bool
  | .v x => oneB x
  | .m _ _ _ => true
theorem OV.one : ∀ (x : OV), x.ok = true → oneB x.val = true
  | .v _, h => h
  | .m _ _ _, _ => rfl
noncomputable abbrev mkDenM (vals : List Value) (hv : vals.all plainS = true) (opq : List OV) (ho : opq.all OV.ok = true) (rows : List (List Value)) (hr : ∀ r ∈ rows, r.all plainS = true) : Den where
  v i := (nthL vals i).getD (.bool false)
  plain i := nthD (p := fun x => plainS x = true) (List.all_eq_true.1 hv) rfl i
  len _ := 0
  sh _ := (0, 0)
  o i := ((nthL opq i).getD (.v .nilIface)).val
  one i := nthD (p := fun x => oneB (OV.val x) = true) (fun x hx => x.one (List.all_eq_true.1 ho x hx)) rfl i
  row i := (nthL rows i).getD []
  rowPlain i := nthD (p := fun (x : List Value) => x.all plainS = true) hr rfl i
  mo i := ((nthL opq i).getD (.v .nilIface)).mo
  moOk i id n c h := by
    generalize (nthL opq i).getD (.v .nilIface) = x at h
    cases x with
    | v y => cases h
    | m a b e => cases h; rfl
noncomputable abbrev denR (s : St) (more : List Value) (hm : more.all plainS = true) (opq : List OV) (ho : opq.all OV.ok = true) (rows : List (List Value)) (hr : ∀ r ∈ rows, r.all plainS = true) : Den := mkDenM (vals s more) (vals_plain s more hm) opq ho rows hr
def lvR (id : Nat) (l : List (Int × Int)) : Value := mSl id l.length INF
def ordR (id cap : Nat) (o : List Ord) : Value := mSl id o.length cap
abbrev olv (id : Nat) (l : List (Int × Int)) : OV := .m id l.length INF
abbrev oord (id cap : Nat) (o : List Ord) : OV := .m id o.length cap
def lineO (l : List (Int × Int)) : AObj := rowOr 34 (encL l) false
def outO (o : List Ord) : AObj := rowOr 45 (encOrds o) false
def bookR (s : St) (lv : Value) (rest : HL) : HL := (0, .row 52 (.lst (cells s lv)) false) :: rest
def rlock (id : Nat) (s : St) : HL := bookR s (lvR id s.line) [(id, lineO s.line)]
def rlockL (pin : List (Nat × Value)) : HL := [(0, .row 52 (.lst (syms pin)) false), (1, .mrow 34 0 false)]
def rlockB (t : St) (o : List Ord) : HL := bookR t (lvR 3 t.line) [(3, lineO t.line), (2, outO o)]
def rlockBN (t : St) : HL := bookR t (lvR 3 t.line) [(3, lineO t.line)]
def rlockD (t : St) (o : List Ord) : HL := bookR t (lvR 3 t.line) [(1, .dead), (3, lineO t.line), (2, outO o)]
def RC (g : FuncId) (args : List Value) (s t : St) (o : List Ord) : Prop := ∃ cap, CapOK o cap ∧ Ctr Try.prog g (lockP ++ args) (rlock 1 s) (ordR 2 cap o) (rlockB t o)
theorem ghost_hr {P : Program} {w0 : World} {F : Nat → Prop} {E : Env} {B : HL} {w : World} (hr : HR0 P w0 F E (ofL B) w) (b : Nat) (hb : lkL B b = none) (T : TypeId) (ro : Bool) : HR0 P w0 F E (ofL (B ++ [(b, rowOr T [] ro)])) w := by
  have hk := @HR.keeps den0 _ _ _ _ _ _ hr
  have hdom := @HR.dom den0 _ _ _ _ _ _ hr
  have hobj := @HR.obj den0 _ _ _ _ _ _ hr
  have hinj := @HR.inj den0 _ _ _ _ _ _ hr
  have hown := @HR.own den0 _ _ _ _ _ _ hr
  have hEb : E b = none := by
    cases hx : E b with
    | none => rfl
    | some x => have := hdom b x hx; rw [get_ofL, hb] at this; exact absurd rfl this
  have hget : ∀ i, (ofL (B ++ [(b, rowOr T [] ro)])).get i = (match lkL B i with
      | some o => some o
      | none => lkL [(b, rowOr T [] ro)] i) := fun i => by rw [get_ofL, lkL_app]; cases lkL B i <;> rfl
  have old : ∀ {i : Nat} {o : AObj}, (ofL (B ++ [(b, rowOr T [] ro)])).get i = some o → (ofL B).get i = some o ∨ (i = b ∧ o = rowOr T [] ro) := by
    intro i o ho
    rw [hget] at ho
    cases hx : lkL B i with
    | some p => rw [hx] at ho; cases ho; exact .inl (by rw [get_ofL]; exact hx)
    | none =>
      rw [hx] at ho
      simp only [lkL] at ho
      cases hb2 : Nat.beq b i with
      | false => rw [hb2] at ho; cases ho
      | true => rw [hb2] at ho; cases ho; exact .inr ⟨(beq_iff.1 hb2).symm, rfl⟩
  refine @HR.mk den0 _ _ _ _ _ _ hk (fun i x hx => ?_) (fun i o ho => ?_) (fun i j o p x y hne2 ho hp hlo hlp hw hx hy => ?_) (fun i o x ho hw hx => ?_)
  · rw [hget]
    have := hdom i x hx
    rw [get_ofL] at this
    cases h5 : lkL B i with
    | none => exact absurd h5 this
    | some o => simp
  · rcases old ho with h | ⟨rfl, rfl⟩
    · exact hobj i o h
    · exact .inl ⟨hEb, rfl⟩
  · rcases old ho with h | ⟨rfl, rfl⟩
    · rcases old hp with h2 | ⟨rfl, rfl⟩
      · exact hinj i j o p x y hne2 h h2 hlo hlp hw hx hy
      · rw [hEb] at hy; cases hy
    · rw [hEb] at hx; cases hx
  · rcases old ho with h | ⟨rfl, rfl⟩
    · exact hown i o x h hw hx
    · rw [hEb] at hx; cases hx
theorem ctr_ghost {P : Program} {g : FuncId} {args : List Value} {A : HL} {res : Value} {B : HL} (h : Ctr P g args A res B) (b : Nat) (T : TypeId) (ro : Bool) (hb : lkL B b = none) (hA : lkL A b = none) : Ctr P g args A res (B ++ [(b, rowOr T [] ro)]) := by
  refine ⟨h.1, fun w F E args' hr hl Fe n hW => (h.2 w F E args' hr hl Fe n hW).mono fun e w' ⟨v', E', k1, k2, k3, k4⟩ => ⟨v', E', k1, fun i x hi hbi => ?_, ghost_hr k3 b hb T ro, k4⟩⟩
  refine k2 i x hi ?_
  rw [lkL_app] at hbi
  cases hx : lkL B i with
  | some o => rfl
  | none =>
    rw [hx] at hbi
    simp only [lkL] at hbi
    cases hb2 : Nat.beq b i with
    | true =>
      have := beq_iff.1 hb2; subst this
      have := @HR.dom den0 _ _ _ _ _ _ hr b x hi
      rw [get_ofL, hA] at this
      exact absurd rfl this
    | false => rw [hb2] at hbi; cases hbi
theorem ctr_noGhost {P : Program} {g : FuncId} {args : List Value} {A : HL} {res : Value} {B : HL} {b : Nat} {T : TypeId} {ro : Bool} (h : Ctr P g args (A ++ [(b, rowOr T [] ro)]) res B) (hA : lkL A b = none) : Ctr P g args A res B :=
  ⟨h.1, fun w F E args' hr hl Fe n hW => h.2 w F E args' (ghost_hr hr b hA T ro) hl Fe n hW⟩
theorem rlockD_lk (t : St) (o : List Ord) (i : Nat) : lkL (rlockD t o) i = lkL (rlockB t o ++ [(1, .dead)]) i := by
  match i with
  | 0 => rfl
  | 1 => rfl
  | 2 => rfl
  | 3 => rfl
  | i + 4 => rfl
theorem RC.mk {g : FuncId} {args : List Value} {s t : St} {o : List Ord} {cap : Nat} (h : Ctr Try.prog g (lockP ++ args) (rlock 1 s) (ordR 2 cap o) (rlockB t o)) (hc : CapOK o cap := by first | exact .inl rfl | exact .inr rfl | assumption) : RC g args s t o :=
  ⟨cap, hc, h⟩
theorem toD {g : FuncId} {args : List Value} {A : HL} {res : Value} {t : St} {o : List Ord} (h : Ctr Try.prog g args A res (rlockB t o)) : Ctr Try.prog g args A res (rlockD t o) := (h.addDead 1 rfl).reB (rlockD_lk t o)
theorem RC.mkN {g : FuncId} {args : List Value} {s t : St} (h : Ctr Try.prog g (lockP ++ args) (rlock 1 s) (.slice none 0 0) (rlockBN t)) : RC g args s t [] :=
  RC.mk (cap := INF) (ctr_ghost h 2 45 false rfl rfl)
theorem app_nilG {P : Program} {st xt e : TypeId} {size bytes : Nat} {z : Value} (ht : ElemT P st xt e size bytes z) (o0 : AObj) {l : List Value} {m off cp : Nat} {T : TypeId} (hm : 1 ≤ m) (hl : off + m * size ≤ l.length) (hp : l.all plainS = true) (h1 : m * bytes ≤ 70368744177664) (h2 : m < HALF) :
    AppC P [st, xt] [.slice none 0 0, .slice (some ⟨1, off, none⟩) m cp] [(0, o0), (1, .row T (.lst l) true)] (.slice (some ⟨2, 0, none⟩) m INF) [(0, .dead), (2, .row e (.lst ((l.drop off).take (m * size))) false)] := by
  refine AppC.of_run (app_nil (H := ofL [(0, o0), (1, .row T (.lst l) true)]) (c := 2) ht (by rw [get_ofL]; rfl) (by rw [get_ofL]; rfl) hm hl hp h1 h2) (fun b o hb => ?_) rfl
  simp only [lkL] at hb
  cases h0 : Nat.beq 0 b with
  | true =>
    rw [h0] at hb
    cases hb
    have := beq_iff.1 h0; subst this
    exact ⟨o0, by rw [Tr.get_set_ne _ _ (by omega), get_ofL]; rfl, .inl rfl⟩
  | false =>
    rw [h0] at hb
    simp only [cond_false] at hb
    cases h : Nat.beq 2 b with
    | false => rw [h] at hb; cases hb
    | true =>
      rw [h] at hb
      cases hb
      have := beq_iff.1 h; subst this
      refine ⟨_, Tr.get_set_self _ _ _, .inr ⟨_, _, _, _, _, rfl, rfl, fun h => h, fun k v hk => by rw [mk_get]; exact hk, ?_⟩⟩
      rw [List.all_eq_true] at hp ⊢
      exact fun x hx => hp x (List.mem_of_mem_drop (List.mem_of_mem_take hx))
theorem app_lR (l : List (Int × Int)) (w : Int × Int) (cp : Nat) (hl : l.length < 1000000) : AppC Try.prog [31, 31] [lvR 0 l, .slice (some ⟨1, 0, none⟩) 1 cp] [(0, lineO l), (1, .row 34 (.lst (encL [w])) true)] (lvR 2 (l ++ [w])) [(0, .dead), (2, lineO (l ++ [w]))] := by
  cases l with
  | nil => exact app_nilG (P := Try.prog) elemW (lineO []) (l := encL [w]) (m := 1) (off := 0) (cp := cp) (T := 34) (by decide) (by simp [encL]) (encL_plain _) (by decide) (by unfold HALF; decide)
  | cons x r =>
    have h := AppC.inf (P := Try.prog) elemW (bl := encL (x :: r)) (l := encL [w]) (n := (x :: r).length) (m := 1) (off := 0) (cp := cp) (T := 34) (encL_len _) (encL_plain _) (by decide) (by simp [encL]) (encL_plain _) (by omega) (by unfold HALF; omega)
    have e : encL (x :: r) ++ ((encL [w]).drop 0).take (1 * 2) = encL ((x :: r) ++ [w]) := by rw [encL_app]; rfl
    rw [e] at h
    have e2 : (x :: r).length + 1 = ((x :: r) ++ [w]).length := by simp
    rw [e2] at h
    exact h
theorem app_oR (l : List Ord) (x : Ord) (cp : Nat) (hl : l.length < 1000000) : AppC Try.prog [28, 28] [ordR 0 INF l, .slice (some ⟨1, 0, none⟩) 1 cp] [(0, outO l), (1, .row 45 (.lst (encOrd x)) true)] (ordR 2 INF (l ++ [x])) [(0, .dead), (2, outO (l ++ [x]))] := by
  cases l with
  | nil =>
    have h := app_nilG (P := Try.prog) elemO (outO []) (l := encOrd x) (m := 1) (off := 0) (cp := cp) (T := 45) (by decide) (by simp [encOrd]) (by simp [encOrd, plainS]) (by decide) (by unfold HALF; decide)
    exact h
  | cons y r =>
    have h := AppC.inf (P := Try.prog) elemO (bl := encOrds (y :: r)) (l := encOrd x) (n := (y :: r).length) (m := 1) (off := 0) (cp := cp) (T := 45) (encOrds_len _) (encOrds_plain _) (by decide) (by simp [encOrd]) (by simp [encOrd, plainS]) (by omega) (by unfold HALF; omega)
    have e : encOrds (y :: r) ++ ((encOrd x).drop 0).take (1 * 6) = encOrds ((y :: r) ++ [x]) := by rw [encOrds_app]; simp [encOrds, encOrd]
    rw [e] at h
    have e2 : (y :: r).length + 1 = ((y :: r) ++ [x]).length := by simp
    rw [e2] at h
    exact h
section
variable (s : St) (lv : Value) (rest : HL) {q : Nat}
theorem ld_shR (hq : q < 8) : LdC Try.prog 4 (.pointer (some ⟨0, 2 + q, none⟩)) (bookR s lv rest) (.bool (s.sh q)) := by
  refine LdC.cell _ a4 ?_
  rcases lt8 hq with rfl | rfl | rfl | rfl | rfl | rfl | rfl | rfl <;> rfl
theorem ld_paR (hq : q < 8) : LdC Try.prog 4 (.pointer (some ⟨0, 10 + q, none⟩)) (bookR s lv rest) (.bool (s.pa q)) := by
  refine LdC.cell _ a4 ?_
  rcases lt8 hq with rfl | rfl | rfl | rfl | rfl | rfl | rfl | rfl <;> rfl
theorem ld_goR (hq : q < 8) : LdC Try.prog 4 (.pointer (some ⟨0, 30 + q, none⟩)) (bookR s lv rest) (.bool (s.go q)) := by
  refine LdC.cell _ a4 ?_
  rcases lt8 hq with rfl | rfl | rfl | rfl | rfl | rfl | rfl | rfl <;> rfl
theorem ld_opsR (hq : q < 8) : LdC Try.prog 2 (.pointer (some ⟨0, 18 + q, none⟩)) (bookR s lv rest) (.int .i64 (s.ops q)) := by
  refine LdC.cell _ a2 ?_
  rcases lt8 hq with rfl | rfl | rfl | rfl | rfl | rfl | rfl | rfl <;> rfl
theorem st_shR (hq : q < 8) (b : Bool) : StC Try.prog 4 (.pointer (some ⟨0, 2 + q, none⟩)) (.bool b) (bookR s lv rest) (bookR { s with sh := upd s.sh q b } lv rest) := by
  have e : cells { s with sh := upd s.sh q b } lv = (cells s lv).set (2 + q) (.bool b) := by rcases lt8 hq with rfl | rfl | rfl | rfl | rfl | rfl | rfl | rfl <;> rfl
  unfold bookR
  rw [e]
  exact StC.cell _ z4 (by simp [cells]; omega) rfl rfl
theorem st_paR (hq : q < 8) (b : Bool) : StC Try.prog 4 (.pointer (some ⟨0, 10 + q, none⟩)) (.bool b) (bookR s lv rest) (bookR { s with pa := upd s.pa q b } lv rest) := by
  have e : cells { s with pa := upd s.pa q b } lv = (cells s lv).set (10 + q) (.bool b) := by rcases lt8 hq with rfl | rfl | rfl | rfl | rfl | rfl | rfl | rfl <;> rfl
  unfold bookR
  rw [e]
  exact StC.cell _ z4 (by simp [cells]; omega) rfl rfl
theorem st_goR (hq : q < 8) (b : Bool) : StC Try.prog 4 (.pointer (some ⟨0, 30 + q, none⟩)) (.bool b) (bookR s lv rest) (bookR { s with go := upd s.go q b } lv rest) := by
  have e : cells { s with go := upd s.go q b } lv = (cells s lv).set (30 + q) (.bool b) := by rcases lt8 hq with rfl | rfl | rfl | rfl | rfl | rfl | rfl | rfl <;> rfl
  unfold bookR
  rw [e]
  exact StC.cell _ z4 (by simp [cells]; omega) rfl rfl
theorem st_opsR (hq : q < 8) (b : Int) : StC Try.prog 2 (.pointer (some ⟨0, 18 + q, none⟩)) (.int .i64 b) (bookR s lv rest) (bookR { s with ops := upd s.ops q b } lv rest) := by
  have e : cells { s with ops := upd s.ops q b } lv = (cells s lv).set (18 + q) (.int .i64 b) := by rcases lt8 hq with rfl | rfl | rfl | rfl | rfl | rfl | rfl | rfl <;> rfl
  unfold bookR
  rw [e]
  exact StC.cell _ z2 (by simp [cells]; omega) rfl rfl
end
def rowR (X : List (Nat × Value)) : AObj := .row 52 (.lst (syms X)) false
def mL (j : Nat) : AObj := .mrow 34 j false
def eLdR (r c : Nat) (X : List (Nat × Value)) (li j i : Nat) : Entry := { args := [.chan (some r)], c := c, foots := [⟨0, 0, false, rowR X, rowR X⟩, ⟨li, 1, false, mL j, mL j⟩], news := [], res := sv i }
def eStR (r : Nat) (v : Value) (c : Nat) (X Y : List (Nat × Value)) (li j : Nat) : Entry := { args := [.chan (some r), v], c := c, foots := [⟨0, 0, false, rowR X, rowR Y⟩, ⟨li, 1, false, mL j, mL j⟩], news := [], res := .bool false }
def eSuR (c : Nat) (X : List (Nat × Value)) (li j i : Nat) : Entry := { args := lockP, c := c, foots := [⟨0, 0, false, rowR X, rowR ((38, sv i) :: X)⟩, ⟨li, 1, false, mL j, mL j⟩], news := [], res := .tuple #[] }
def eCR (args : List Value) (c : Nat) (X : List (Nat × Value)) (i0 k li j n1 n2 : Nat) (res : Value) : Entry := { args := args, c := c, foots := [⟨0, 0, false, rowR X, .row 52 (.lst (symsT i0 k)) false⟩, ⟨li, 1, false, mL j, .dead⟩], news := [(3, mL n1), (2, .mrow 45 n2 false)], res := res }
def eCRn (args : List Value) (c : Nat) (X : List (Nat × Value)) (i0 k n1 n2 : Nat) (res : Value) : Entry := { args := args, c := c, foots := [⟨0, 0, false, rowR X, .row 52 (.lst (symsT i0 k)) false⟩], news := [(3, mL n1), (2, .mrow 45 n2 false)], res := res }
noncomputable abbrev dr (s : St) (more : List Value) (opq : List OV) (rows : List (List Value)) (hm : more.all plainS = true := by rfl) (ho : opq.all OV.ok = true := by rfl) (hr : ∀ r ∈ rows, r.all plainS = true := by repeat first | exact rN | refine rC ?_ ?_ | exact encL_plain _ | exact encOrds_plain _ | exact encI_plain _) : Den := denR s more hm opq ho rows hr
theorem lsh (s : St) (l : List (Int × Int)) (q : Nat) (hq : q < 8 := by omega) : LdC Try.prog 4 (.pointer (some ⟨0, 2 + q, none⟩)) (bookR s (lvR 1 l) [(1, lineO l)]) (.bool (s.sh q)) := ld_shR s (lvR 1 l) [(1, lineO l)] hq
theorem ssh (s : St) (l : List (Int × Int)) (q : Nat) (b : Bool) (hq : q < 8 := by omega) : StC Try.prog 4 (.pointer (some ⟨0, 2 + q, none⟩)) (.bool b) (bookR s (lvR 1 l) [(1, lineO l)]) (bookR { s with sh := upd s.sh q b } (lvR 1 l) [(1, lineO l)]) := st_shR s (lvR 1 l) [(1, lineO l)] hq b
theorem lpa (s : St) (l : List (Int × Int)) (q : Nat) (hq : q < 8 := by omega) : LdC Try.prog 4 (.pointer (some ⟨0, 10 + q, none⟩)) (bookR s (lvR 1 l) [(1, lineO l)]) (.bool (s.pa q)) := ld_paR s (lvR 1 l) [(1, lineO l)] hq
theorem spa (s : St) (l : List (Int × Int)) (q : Nat) (b : Bool) (hq : q < 8 := by omega) : StC Try.prog 4 (.pointer (some ⟨0, 10 + q, none⟩)) (.bool b) (bookR s (lvR 1 l) [(1, lineO l)]) (bookR { s with pa := upd s.pa q b } (lvR 1 l) [(1, lineO l)]) := st_paR s (lvR 1 l) [(1, lineO l)] hq b
theorem lgo (s : St) (l : List (Int × Int)) (q : Nat) (hq : q < 8 := by omega) : LdC Try.prog 4 (.pointer (some ⟨0, 30 + q, none⟩)) (bookR s (lvR 1 l) [(1, lineO l)]) (.bool (s.go q)) := ld_goR s (lvR 1 l) [(1, lineO l)] hq
theorem sgo (s : St) (l : List (Int × Int)) (q : Nat) (b : Bool) (hq : q < 8 := by omega) : StC Try.prog 4 (.pointer (some ⟨0, 30 + q, none⟩)) (.bool b) (bookR s (lvR 1 l) [(1, lineO l)]) (bookR { s with go := upd s.go q b } (lvR 1 l) [(1, lineO l)]) := st_goR s (lvR 1 l) [(1, lineO l)] hq b
theorem lops (s : St) (l : List (Int × Int)) (q : Nat) (hq : q < 8 := by omega) : LdC Try.prog 2 (.pointer (some ⟨0, 18 + q, none⟩)) (bookR s (lvR 1 l) [(1, lineO l)]) (.int .i64 (s.ops q)) := ld_opsR s (lvR 1 l) [(1, lineO l)] hq
theorem sops (s : St) (l : List (Int × Int)) (q : Nat) (b : Int) (hq : q < 8 := by omega) : StC Try.prog 2 (.pointer (some ⟨0, 18 + q, none⟩)) (.int .i64 b) (bookR s (lvR 1 l) [(1, lineO l)]) (bookR { s with ops := upd s.ops q b } (lvR 1 l) [(1, lineO l)]) := st_opsR s (lvR 1 l) [(1, lineO l)] hq b
end Go.Proofs.Ytjpgnjaobfbojaa
namespace Go.Proofs.Ytjpgnjaobfbojaa
open Go.Sx
def cells0 (hk : Int) : List Value := cells ⟨-1, -1, fun _ => false, fun _ => false, fun _ => 0, 0, hk, 0, fun _ => false, -1, 0, []⟩ (.slice none 0 0)
def hl0 (hk : Int) : HL := [(0, .row 52 (.lst (cells0 hk)) false)]
def hv : Nat → Int
  | 0 => -1
  | k + 1 => (k : Nat)
noncomputable abbrev dSup (s : St) (m : Int) (k : Nat) : Den := dr { s with su := m } [.int .i64 (hv k)] [olv 1 s.line] [encL s.line]
noncomputable def kSup : List KI := ((ksteps (@rec ⟨[], [], []⟩ Try.prog noTbl 100) 20 (startC Try.prog 103 lockP 2 (hl0 0))).map (·.k)).getD []
noncomputable def xSup : Cfg := headC kSup .normal [(0, .pointer (some ⟨0, 0, none⟩)), (3, sv 40)] 75 2 (rlockL [])
theorem supEnd (s : St) (m : Int) : GoodS (dSup s m 0) Try.prog 103 (rlock 1 s) (.tuple #[]) (rlock 1 { s with su := m }) [0, 1] xSup :=
  @goodS_fin (dSup s m 0) Try.prog mixed ⟨[kf .geq 3 (sv 40) (iv 0)], [], []⟩ [] ⟨qF (hv 0 ≥ 0) (by decide), trivial⟩ trivial trivial trivial 100 7 103 _ _ _ _ _ [(0, 0), (1, 1)] [] (by kernel_rfl) (by kernel_rfl)
theorem supStep (s : St) (m : Int) (k : Nat) (hk : k < 8) (B : HL) (h : GoodS (dSup s (if s.sh k = true then (k : Int) else m) k) Try.prog 103 (rlock 1 s) (.tuple #[]) B [0, 1] xSup) : GoodS (dSup s m (k + 1)) Try.prog 103 (rlock 1 s) (.tuple #[]) B [0, 1] xSup := by
  obtain ⟨d, hd⟩ : ∃ d : Den, d = dr { s with su := m } [.int .i64 (hv (k + 1)), .bool (s.sh k), .int .i64 (hv k)] [olv 1 s.line, .v (.pointer (some ⟨0, 2 + k, none⟩))] [encL s.line] := ⟨_, rfl⟩
  have h0 : GoodS (dr { s with su := m } [.int .i64 (hv (k + 1)), .bool (s.sh k), .int .i64 (hv k)] [olv 1 s.line, .v (.pointer (some ⟨0, 2 + k, none⟩))] [encL s.line]) Try.prog 103 (rlock 1 s) (.tuple #[]) B [0, 1] xSup := by
    have a1 : @AK.Ok (dr { s with su := m } [.int .i64 (hv (k + 1)), .bool (s.sh k), .int .i64 (hv k)] [olv 1 s.line, .v (.pointer (some ⟨0, 2 + k, none⟩))] [encL s.line]) Try.prog (.bin .geq 3 (sv 40) (.int .i64 0)) (.bool true) := qT ((k : Int) ≥ 0)
    have a2 : @AK.Ok (dr { s with su := m } [.int .i64 (hv (k + 1)), .bool (s.sh k), .int .i64 (hv k)] [olv 1 s.line, .v (.pointer (some ⟨0, 2 + k, none⟩))] [encL s.line]) Try.prog (.ixa 48 (.pointer (some ⟨0, 2, none⟩)) (sv 40)) (.chan (some 1)) := asIxArr (q := (k : Int)) u48 z4 rfl (by omega) (by omega) rfl (by simp)
    have a3 : @AK.Ok (dr { s with su := m } [.int .i64 (hv (k + 1)), .bool (s.sh k), .int .i64 (hv k)] [olv 1 s.line, .v (.pointer (some ⟨0, 2 + k, none⟩))] [encL s.line]) Try.prog (.bin .sub 3 (sv 40) (.int .i64 1)) (sv 42) :=
      asP (u := .int .i64 (hv k)) (Eq.trans (b := some (.int .i64 (IntKind.i64.wrap ((k : Int) - 1)))) (by kernel_rfl) (by rw [wrap_id (by omega) (by omega)]; cases k with
        | zero => rfl
        | succ k => show some (Value.int .i64 (((k + 1 : Nat) : Int) - 1)) = some (.int .i64 (k : Nat)); rw [show ((k + 1 : Nat) : Int) - 1 = (k : Nat) from by omega])) (by kernel_rfl)
    have l1 := ld (d := dr { s with su := m } [.int .i64 (hv (k + 1)), .bool (s.sh k), .int .i64 (hv k)] [olv 1 s.line, .v (.pointer (some ⟨0, 2 + k, none⟩))] [encL s.line]) (e := eLdR 1 2 [] 1 0 41) (ld_shR { s with su := m } (lvR 1 s.line) [(1, lineO s.line)] (q := k) hk)
    by_cases hb : s.sh k = true
    · rw [if_pos hb] at h
      exact @goodS_seg _ (dSup s (k : Int) k) Try.prog mixed ⟨[kt .geq 3 (sv 40) (iv 0), kx 48 0 2 40 1, tt 41, (.bin .sub 3 (sv 40) (iv 1), sv 42)], [], [([4, 1000000], eLdR 1 2 [] 1 0 41)]⟩ [] ⟨a1, a2, tB hb, a3, trivial⟩ trivial ⟨l1, trivial⟩ trivial 100 12 103 _ _ _ _ _ [(0, 0), (1, 1)] [] _ _ _ _ _ _ (by kernel_rfl) (by kernel_rfl) (by kernel_rfl) h
    · have hb' : s.sh k = false := Bool.eq_false_iff.2 hb
      rw [if_neg hb] at h
      exact @goodS_seg _ (dSup s m k) Try.prog mixed ⟨[kt .geq 3 (sv 40) (iv 0), kx 48 0 2 40 1, tf 41, (.bin .sub 3 (sv 40) (iv 1), sv 42)], [], [([4, 1000000], eLdR 1 2 [] 1 0 41)]⟩ [] ⟨a1, a2, tB hb', a3, trivial⟩ trivial ⟨l1, trivial⟩ trivial 100 12 103 _ _ _ _ _ [(0, 0), (1, 1)] [] _ _ _ _ _ _ (by kernel_rfl) (by kernel_rfl) (by kernel_rfl) h
  exact @goodS_seg (dSup s m (k + 1)) _ Try.prog mixed ⟨[], [], []⟩ [] trivial trivial trivial trivial 100 0 103 _ _ _ _ _ [(0, 0), (1, 1)] [] _ _ _ _ _ _ (by kernel_rfl) (by kernel_rfl) (by kernel_rfl) h0
theorem supF (s : St) : ∀ (k : Nat) (m : Int) (B : HL), k ≤ 8 → GoodS (dSup s (finC s.sh k m) 0) Try.prog 103 (rlock 1 s) (.tuple #[]) B [0, 1] xSup → GoodS (dSup s m k) Try.prog 103 (rlock 1 s) (.tuple #[]) B [0, 1] xSup
  | 0, _, _, _, h => h
  | k + 1, m, B, hk, h => supStep s m k (by omega) B (supF s k _ B (by omega) h)
theorem supAll (s : St) : GoodS (dSup s (-1) 8) Try.prog 103 (rlock 1 s) (.tuple #[]) (rlock 1 { s with su := lowR s.sh 8 }) [0, 1] xSup := by
  have h := supEnd s (finC s.sh 8 (-1))
  rw [finC_low] at h
  exact supF s 8 (-1) _ (by omega) (by rw [finC_low]; exact h)
theorem supplyRM_ctr (s : St) (hr : 0 ≤ s.hn ∧ s.hn < 8) (ho : -1 ≤ s.owner ∧ s.owner < 8) : Ctr Try.prog 103 lockP (rlock 1 s) (.tuple #[]) (rlock 1 { s with su := supplyR s }) := by
  have g7 := hr.1
  have g8 := hr.2
  · by_cases h0 : ((s.x) : Int) ≥ (0)
    · simp only [supplyR, thirdR, if_pos h0]
      refine Ctr.of_goodS (d := (dr s [] [olv 1 s.line] [encL s.line])) [0, 1] (c0 := 2) (A0 := rlockL []) (args0 := lockP) (by kernel_rfl) (by kernel_rfl) (by kernel_rfl) ?_
      exact @goodS_fin (dr s [] [olv 1 s.line] [encL s.line]) Try.prog mixed ⟨[kt .geq 3 (sv 0) (iv 0)], [], []⟩ [] ⟨qT (s.x ≥ 0), trivial⟩ trivial trivial trivial 100 9 103 _ _ _ _ _ [(0, 0), (1, 1)] [] (by kernel_rfl) (by kernel_rfl)
    · by_cases h1 : ((s.owner) : Int) ≥ (0)
      · by_cases h2 : ((s.owner) : Int) = (s.hn)
        · by_cases h3 : s.sh s.hn.toNat = true
          · simp only [supplyR, thirdR, if_neg h0, if_pos h1, if_pos h2, if_pos h3]
            refine Ctr.of_goodS (d := (dr s [.bool (s.sh s.hn.toNat)] [olv 1 s.line, .v (pt 0 (2 + s.hn.toNat))] [encL s.line])) [0, 1] (c0 := 2) (A0 := rlockL []) (args0 := lockP) (by kernel_rfl) (by kernel_rfl) (by kernel_rfl) ?_
            exact @goodS_fin (dr s [.bool (s.sh s.hn.toNat)] [olv 1 s.line, .v (pt 0 (2 + s.hn.toNat))] [encL s.line]) Try.prog mixed ⟨[kf .geq 3 (sv 0) (iv 0), kt .geq 3 (sv 1) (iv 0), kf .neq 3 (sv 1) (sv 27), kx 48 0 2 27 1, tt 40], [], [([4, 1000000], eLdR 1 2 [(38, iv (-1))] 1 0 40)]⟩ [] ⟨qF (s.x ≥ 0), qT (s.owner ≥ 0), nF s.owner s.hn, iA u48 z4 rfl rfl, tB h3, trivial⟩ trivial ⟨ld (lsh { s with su := (-1) : St } s.line s.hn.toNat), trivial⟩ trivial 100 17 103 _ _ _ _ _ [(0, 0), (1, 1)] [] (by kernel_rfl) (by kernel_rfl)
          · simp only [supplyR, thirdR, if_neg h0, if_pos h1, if_pos h2, if_neg h3]
            refine Ctr.of_goodS (d := (dr s [.bool (s.sh s.hn.toNat)] [olv 1 s.line, .v (pt 0 (2 + s.hn.toNat))] [encL s.line])) [0, 1] (c0 := 2) (A0 := rlockL []) (args0 := lockP) (by kernel_rfl) (by kernel_rfl) (by kernel_rfl) ?_
            exact @goodS_seg (dr s [.bool (s.sh s.hn.toNat)] [olv 1 s.line, .v (pt 0 (2 + s.hn.toNat))] [encL s.line]) (dSup s (-1) 8) Try.prog mixed ⟨[kf .geq 3 (sv 0) (iv 0), kt .geq 3 (sv 1) (iv 0), kf .neq 3 (sv 1) (sv 27), kx 48 0 2 27 1, tf 40], [], [([4, 1000000], eLdR 1 2 [(38, iv (-1))] 1 0 40)]⟩ [] ⟨qF (s.x ≥ 0), qT (s.owner ≥ 0), nF s.owner s.hn, iA u48 z4 rfl rfl, tB (Bool.eq_false_iff.2 h3), trivial⟩ trivial ⟨ld (lsh { s with su := (-1) : St } s.line s.hn.toNat), trivial⟩ trivial 100 20 103 _ _ _ _ _ [(0, 0), (1, 1)] [] _ _ _ _ _ _ (by kernel_rfl) (by kernel_rfl) (by kernel_rfl) (supAll s)
        · by_cases h4 : s.sh s.owner.toNat = true
          · simp only [supplyR, thirdR, if_neg h0, if_pos h1, if_neg h2, if_pos h4]
            refine Ctr.of_goodS (d := (dr s [.bool (s.sh s.owner.toNat)] [olv 1 s.line, .v (pt 0 (2 + s.owner.toNat))] [encL s.line])) [0, 1] (c0 := 2) (A0 := rlockL []) (args0 := lockP) (by kernel_rfl) (by kernel_rfl) (by kernel_rfl) ?_
            exact @goodS_fin (dr s [.bool (s.sh s.owner.toNat)] [olv 1 s.line, .v (pt 0 (2 + s.owner.toNat))] [encL s.line]) Try.prog mixed ⟨[kf .geq 3 (sv 0) (iv 0), kt .geq 3 (sv 1) (iv 0), kt .neq 3 (sv 1) (sv 27), kx 48 0 2 1 1, tt 40], [], [([4, 1000000], eLdR 1 2 [(38, iv (-1))] 1 0 40)]⟩ [] ⟨qF (s.x ≥ 0), qT (s.owner ≥ 0), nT s.owner s.hn, iA u48 z4 rfl rfl, tB h4, trivial⟩ trivial ⟨ld (lsh { s with su := (-1) : St } s.line s.owner.toNat), trivial⟩ trivial 100 13 103 _ _ _ _ _ [(0, 0), (1, 1)] [] (by kernel_rfl) (by kernel_rfl)
          · by_cases h5 : s.sh s.hn.toNat = true
            · simp only [supplyR, thirdR, if_neg h0, if_pos h1, if_neg h2, if_neg h4, if_pos h5]
              refine Ctr.of_goodS (d := (dr s [.bool (s.sh s.owner.toNat), .bool (s.sh s.hn.toNat)] [olv 1 s.line, .v (pt 0 (2 + s.owner.toNat)), .v (pt 0 (2 + s.hn.toNat))] [encL s.line])) [0, 1] (c0 := 2) (A0 := rlockL []) (args0 := lockP) (by kernel_rfl) (by kernel_rfl) (by kernel_rfl) ?_
              exact @goodS_fin (dr s [.bool (s.sh s.owner.toNat), .bool (s.sh s.hn.toNat)] [olv 1 s.line, .v (pt 0 (2 + s.owner.toNat)), .v (pt 0 (2 + s.hn.toNat))] [encL s.line]) Try.prog mixed ⟨[kf .geq 3 (sv 0) (iv 0), kt .geq 3 (sv 1) (iv 0), kt .neq 3 (sv 1) (sv 27), kx 48 0 2 1 1, tf 40, kx 48 0 2 27 2, tt 41], [], [([4, 1000000], eLdR 1 2 [(38, iv (-1))] 1 0 40), ([4, 1000000], eLdR 2 2 [(38, iv (-1))] 1 0 41)]⟩ [] ⟨qF (s.x ≥ 0), qT (s.owner ≥ 0), nT s.owner s.hn, iA u48 z4 rfl rfl, tB (Bool.eq_false_iff.2 h4), iA u48 z4 rfl rfl, tB h5, trivial⟩ trivial ⟨ld (lsh { s with su := (-1) : St } s.line s.owner.toNat), ld (lsh { s with su := (-1) : St } s.line s.hn.toNat), trivial⟩ trivial 100 17 103 _ _ _ _ _ [(0, 0), (1, 1)] [] (by kernel_rfl) (by kernel_rfl)
            · simp only [supplyR, thirdR, if_neg h0, if_pos h1, if_neg h2, if_neg h4, if_neg h5]
              refine Ctr.of_goodS (d := (dr s [.bool (s.sh s.owner.toNat), .bool (s.sh s.hn.toNat)] [olv 1 s.line, .v (pt 0 (2 + s.owner.toNat)), .v (pt 0 (2 + s.hn.toNat))] [encL s.line])) [0, 1] (c0 := 2) (A0 := rlockL []) (args0 := lockP) (by kernel_rfl) (by kernel_rfl) (by kernel_rfl) ?_
              exact @goodS_seg (dr s [.bool (s.sh s.owner.toNat), .bool (s.sh s.hn.toNat)] [olv 1 s.line, .v (pt 0 (2 + s.owner.toNat)), .v (pt 0 (2 + s.hn.toNat))] [encL s.line]) (dSup s (-1) 8) Try.prog mixed ⟨[kf .geq 3 (sv 0) (iv 0), kt .geq 3 (sv 1) (iv 0), kt .neq 3 (sv 1) (sv 27), kx 48 0 2 1 1, tf 40, kx 48 0 2 27 2, tf 41], [], [([4, 1000000], eLdR 1 2 [(38, iv (-1))] 1 0 40), ([4, 1000000], eLdR 2 2 [(38, iv (-1))] 1 0 41)]⟩ [] ⟨qF (s.x ≥ 0), qT (s.owner ≥ 0), nT s.owner s.hn, iA u48 z4 rfl rfl, tB (Bool.eq_false_iff.2 h4), iA u48 z4 rfl rfl, tB (Bool.eq_false_iff.2 h5), trivial⟩ trivial ⟨ld (lsh { s with su := (-1) : St } s.line s.owner.toNat), ld (lsh { s with su := (-1) : St } s.line s.hn.toNat), trivial⟩ trivial 100 20 103 _ _ _ _ _ [(0, 0), (1, 1)] [] _ _ _ _ _ _ (by kernel_rfl) (by kernel_rfl) (by kernel_rfl) (supAll s)
      · by_cases h6 : s.sh s.hn.toNat = true
        · simp only [supplyR, thirdR, if_neg h0, if_neg h1, if_pos h6]
          refine Ctr.of_goodS (d := (dr s [.bool (s.sh s.hn.toNat)] [olv 1 s.line, .v (pt 0 (2 + s.hn.toNat))] [encL s.line])) [0, 1] (c0 := 2) (A0 := rlockL []) (args0 := lockP) (by kernel_rfl) (by kernel_rfl) (by kernel_rfl) ?_
          exact @goodS_fin (dr s [.bool (s.sh s.hn.toNat)] [olv 1 s.line, .v (pt 0 (2 + s.hn.toNat))] [encL s.line]) Try.prog mixed ⟨[kf .geq 3 (sv 0) (iv 0), kf .geq 3 (sv 1) (iv 0), kx 48 0 2 27 1, tt 40], [], [([4, 1000000], eLdR 1 2 [(38, iv (-1))] 1 0 40)]⟩ [] ⟨qF (s.x ≥ 0), qF (s.owner ≥ 0), iA u48 z4 rfl rfl, tB h6, trivial⟩ trivial ⟨ld (lsh { s with su := (-1) : St } s.line s.hn.toNat), trivial⟩ trivial 100 17 103 _ _ _ _ _ [(0, 0), (1, 1)] [] (by kernel_rfl) (by kernel_rfl)
        · simp only [supplyR, thirdR, if_neg h0, if_neg h1, if_neg h6]
          refine Ctr.of_goodS (d := (dr s [.bool (s.sh s.hn.toNat)] [olv 1 s.line, .v (pt 0 (2 + s.hn.toNat))] [encL s.line])) [0, 1] (c0 := 2) (A0 := rlockL []) (args0 := lockP) (by kernel_rfl) (by kernel_rfl) (by kernel_rfl) ?_
          exact @goodS_seg (dr s [.bool (s.sh s.hn.toNat)] [olv 1 s.line, .v (pt 0 (2 + s.hn.toNat))] [encL s.line]) (dSup s (-1) 8) Try.prog mixed ⟨[kf .geq 3 (sv 0) (iv 0), kf .geq 3 (sv 1) (iv 0), kx 48 0 2 27 1, tf 40], [], [([4, 1000000], eLdR 1 2 [(38, iv (-1))] 1 0 40)]⟩ [] ⟨qF (s.x ≥ 0), qF (s.owner ≥ 0), iA u48 z4 rfl rfl, tB (Bool.eq_false_iff.2 h6), trivial⟩ trivial ⟨ld (lsh { s with su := (-1) : St } s.line s.hn.toNat), trivial⟩ trivial 100 20 103 _ _ _ _ _ [(0, 0), (1, 1)] [] _ _ _ _ _ _ (by kernel_rfl) (by kernel_rfl) (by kernel_rfl) (supAll s)
theorem on_ctr (s : St) (hs : -1 ≤ s.su) : RC 104 [] s (onM s).1 (onM s).2 := by
  refine RC.mk (cap := 1) ?_
  · by_cases h0 : ((s.su) : Int) < (0)
    · simp only [onM]; rw [if_pos (by omega)]
      exact pth (dr s [] [olv 1 s.line] [encL s.line]) ⟨[kt .lss 3 (sv 38) (iv 0)], [], []⟩ [] ⟨qT (s.su < 0), trivial⟩ trivial trivial trivial 2 (rlockL []) lockP [(0, 0), (1, 3), (2, 2)]
    · simp only [onM]; rw [if_neg (by omega)]
      exact pth (dr s [] [olv 1 s.line] [encL s.line]) ⟨[kf .lss 3 (sv 38) (iv 0)], [], []⟩ [] ⟨qF (s.su < 0), trivial⟩ trivial trivial trivial 2 (rlockL []) lockP [(0, 0), (1, 3), (2, 2)]
end Go.Proofs.Ytjpgnjaobfbojaa
namespace Go.Proofs.Ytjpgnjaobfbojaa
open Go.Sx
set_option maxRecDepth 20000
theorem HR.ghost [Den] {P : Program} {w0 : World} {F : Nat → Prop} {E : Env} {H H' : Heap} {w : World} (hr : HR P w0 F E H w) {b j : Nat} {T : TypeId} {ro : Bool} (hb : H.get b = none) (hj : Den.row j = []) (h1 : H'.get b = some (.mrow T j ro)) (h2 : ∀ i, i ≠ b → H'.get i = H.get i) : HR P w0 F E H' w := by
  have hEb : E b = none := by
    cases hx : E b with
    | none => rfl
    | some x => exact absurd hb (hr.dom b x hx)
  have old : ∀ {i : Nat} {o : AObj}, H'.get i = some o → H.get i = some o ∨ (i = b ∧ o = .mrow T j ro) := fun {i o} ho => by
    by_cases hi : i = b
    · subst hi; rw [h1] at ho; cases ho; exact .inr ⟨rfl, rfl⟩
    · rw [h2 i hi] at ho; exact .inl ho
  refine ⟨hr.keeps, fun i x hx => ?_, fun i o ho => ?_, fun i k o p x y hne ho hp hlo hlp hw hx hy => ?_, fun i o x ho hw hx => ?_⟩
  · by_cases hi : i = b
    · subst hi; rw [h1]; simp
    · rw [h2 i hi]; exact hr.dom i x hx
  · rcases old ho with h | ⟨rfl, rfl⟩
    · exact hr.obj i o h
    · exact .inl ⟨hEb, hj⟩
  · rcases old ho with h | ⟨rfl, rfl⟩
    · rcases old hp with h3 | ⟨rfl, rfl⟩
      · exact hr.inj i k o p x y hne h h3 hlo hlp hw hx hy
      · rw [hEb] at hy; cases hy
    · rw [hEb] at hx; cases hx
  · rcases old ho with h | ⟨rfl, rfl⟩
    · exact hr.own i o x h hw hx
    · rw [hEb] at hx; cases hx
theorem goodS_ghost {d : Den} {P : Program} {g : FuncId} {A : HL} {res : Value} {B : HL} {an : List Nat} {k : List KI} {e : Exit} {fv : FV} {n c c' : Nat} {A2 : HL} (b j : Nat) (T : TypeId) (ro : Bool) (hb : lkL A2 b = none) (hj : d.row j = [])
    (hg : GoodS d P g A res B an (headC k e fv n c' (A2 ++ [(b, .mrow T j ro)]))) : GoodS d P g A res B an (headC k e fv n c A2) := by
  refine ⟨fun fn hfn w F E0 Fe nn hW hE E a w' ha hf hr => ?_⟩
  refine hg.get fn hfn w F E0 Fe nn hW hE E a w' ha hf ?_
  refine @HR.ghost d P w F E _ _ w' hr b j T ro (by show (ofL A2).get b = none; rw [get_ofL]; exact hb) hj ?_ (fun i hi => ?_)
  · show (ofL (A2 ++ [(b, .mrow T j ro)])).get b = _
    rw [get_ofL, lkL_app, hb]; simp [lkL]
  · show (ofL (A2 ++ [(b, .mrow T j ro)])).get i = (ofL A2).get i
    rw [get_ofL, get_ofL, lkL_app]
    cases lkL A2 i with
    | some o => rfl
    | none =>
      simp only [lkL]
      cases hb2 : Nat.beq b i with
      | true => exact absurd (beq_iff.1 hb2).symm hi
      | false => rfl
theorem goodS_den {d1 d2 : Den} {P : Program} (hm : P.follows .mixedOrders = true) {g : FuncId} {A B : HL} {res : Value} {an : List Nat} {k : List KI} {e : Exit} {fv : FV} {n c : Nat} {A2 : HL}
    (h1 : @snap d1 (idR A2) [] (fv.map (·.1)) (headC k e fv n c A2) = @snap d2 (idR A2) [] (fv.map (·.1)) (headC k e fv n c A2)) (h2 : (@snap d2 (idR A2) [] (fv.map (·.1)) (headC k e fv n c A2)).isSome = true)
    (hb : (nodupB (A2.map (·.1)) && injB (idR A2) && an.all (fun i => match lkR (idR A2) i with
      | some a => Nat.beq a i
      | none => false)) = true) (hg : GoodS d2 P g A res B an (headC k e fv n c A2)) : GoodS d1 P g A res B an (headC k e fv n c A2) :=
  @goodS_seg d1 d2 P hm ⟨[], [], []⟩ [] trivial trivial trivial trivial 100 0 g A B res an _ (idR A2) [] k e fv n c A2 h1 h2 hb hg
theorem gS (D : Den) (d2 : Den) {d1 : Den} (asm : Asm) (ents : List (FuncId × List Entry)) (hok : @AllOk D Try.prog asm.l) (hlds : @LdsOk D Try.prog asm.lds) (happs : @AppsOk D Try.prog asm.apps) (hent : @EntsOK D Try.prog ents) (m : Nat) (τ : Ren) {g : FuncId} {A B : HL} {res : Value} {an : List Nat} {k : List KI} {e : Exit} {fv : FV} {n c : Nat} {A1 : HL} {k2 : List KI} {e2 : Exit} {fv2 : FV} {n2 c2 : Nat} {A2 : HL}
    (hg : GoodS d2 Try.prog g A res B an (headC k2 e2 fv2 n2 c2 A2)) (h1 : @snap d1 (idR A1) [] (fv.map (·.1)) (headC k e fv n c A1) = @snap D (idR A1) [] (fv.map (·.1)) (headC k e fv n c A1) := by kernel_rfl) (h2 : (@snap D (idR A1) [] (fv.map (·.1)) (headC k e fv n c A1)).isSome = true := by kernel_rfl)
    (hb : (nodupB (A1.map (·.1)) && injB (idR A1) && an.all (fun i => match lkR (idR A1) i with
      | some a => Nat.beq a i
      | none => false)) = true := by kernel_rfl)
    (h3 : (ksteps (@rec asm Try.prog (tblE noTbl ents) 100) m (headC k e fv n c A1)).bind (@snap D τ [] (fv2.map (·.1))) = @snap d2 (idR A2) [] (fv2.map (·.1)) (headC k2 e2 fv2 n2 c2 A2) := by kernel_rfl) (h4 : (@snap d2 (idR A2) [] (fv2.map (·.1)) (headC k2 e2 fv2 n2 c2 A2)).isSome = true := by kernel_rfl)
    (hb2 : (nodupB (A2.map (·.1)) && injB τ && an.all (fun i => match lkR τ i with
      | some a => Nat.beq a i
      | none => false)) = true := by kernel_rfl) : GoodS d1 Try.prog g A res B an (headC k e fv n c A1) :=
  goodS_den mixed h1 h2 hb (@goodS_seg D d2 Try.prog mixed asm ents hok hlds happs hent 100 m g A B res an _ τ [] k2 e2 fv2 n2 c2 A2 h3 h4 hb2 hg)
theorem gF (D : Den) {d1 : Den} (asm : Asm) (ents : List (FuncId × List Entry)) (hok : @AllOk D Try.prog asm.l) (hlds : @LdsOk D Try.prog asm.lds) (happs : @AppsOk D Try.prog asm.apps) (hent : @EntsOK D Try.prog ents) (m : Nat) (τ : Ren) {g : FuncId} {A B : HL} {res : Value} {an : List Nat} {k : List KI} {e : Exit} {fv : FV} {n c : Nat} {A1 : HL}
    (h1 : @snap d1 (idR A1) [] (fv.map (·.1)) (headC k e fv n c A1) = @snap D (idR A1) [] (fv.map (·.1)) (headC k e fv n c A1) := by kernel_rfl) (h2 : (@snap D (idR A1) [] (fv.map (·.1)) (headC k e fv n c A1)).isSome = true := by kernel_rfl)
    (hb : (nodupB (A1.map (·.1)) && injB (idR A1) && an.all (fun i => match lkR (idR A1) i with
      | some a => Nat.beq a i
      | none => false)) = true := by kernel_rfl)
    (h3 : (ksteps (@rec asm Try.prog (tblE noTbl ents) 100) m (headC k e fv n c A1)).bind (@endOf D Try.prog g τ []) = some (res, B) := by kernel_rfl)
    (hb2 : (injB τ && B.all (fun p => !(lkL A p.1).isSome || (an.any (Nat.beq p.1) && match lkR τ p.1 with
      | some a => Nat.beq a p.1
      | none => false))) = true := by kernel_rfl) : GoodS d1 Try.prog g A res B an (headC k e fv n c A1) :=
  goodS_den mixed h1 h2 hb (@goodS_fin D Try.prog mixed asm ents hok hlds happs hent 100 m g A B res an _ τ [] h3 hb2)
theorem upd_same {α : Type} (f : Nat → α) (n : Nat) (v : α) : upd f n v n = v := if_pos rfl
def eApO (r a c id j : Nat) (cl : List Value) (j' k' : Nat) : Entry := { args := [.chan (some r), .slice (some ⟨a, 0, none⟩) 1 1], c := c, foots := [⟨id, 0, false, .mrow 45 j false, .dead⟩, ⟨a, 1, true, .row 45 (.lst cl) false, .row 45 (.lst cl) false⟩], news := [(2, .mrow 45 j' false)], res := .chan (some k') }
theorem beginR_Sd {s t : St} {o : List Ord} (hi : Hand s) (hk : s.hk = 1) (hc : s.x = s.hn ∨ s.sh s.hn.toNat = true) (h : RC 89 [] s t o) : RC 91 [] s t o := by
  obtain ⟨cap, hcap, hN⟩ := h
  have g1 := hi.1
  have g2 := hi.2
  refine RC.mk (cap := cap) ?_
  · by_cases h0 : ((s.x) : Int) = (s.hn)
    · skip
      exact pth (dr s (tv t) [olv 1 s.line, olv 2 t.line, oord 3 cap o] [encL s.line, encL t.line, encOrds o]) ⟨[kt .eql 32 (sv 28) (iv 1), kt .eql 3 (sv 0) (sv 27)], [], []⟩ [(89, [eCR [pt 0 0] 2 [] 40 1 1 0 1 2 (ch 2)])] ⟨eT s.hk 1, eT s.x s.hn, trivial⟩ trivial trivial ⟨oe (toD hN), trivial⟩ 2 (rlockL []) lockP [(0, 0), (2, 3), (3, 2)]
    · by_cases h1 : s.sh s.hn.toNat = true
      · skip
        exact pth (dr s ([.bool (s.sh s.hn.toNat)] ++ tv t) [olv 1 s.line, .v (pt 0 (2 + s.hn.toNat)), olv 2 t.line, oord 3 cap o] [encL s.line, encL t.line, encOrds o]) ⟨[kt .eql 32 (sv 28) (iv 1), kf .eql 3 (sv 0) (sv 27), kx 48 0 2 27 1, tt 40], [], [([4, 1000000], eLdR 1 2 [] 1 0 40)]⟩ [(89, [eCR [pt 0 0] 2 [] 41 2 1 0 1 2 (ch 3)])] ⟨eT s.hk 1, eF s.x s.hn, iA u48 z4 rfl rfl, tB h1, trivial⟩ trivial ⟨ld (lsh s s.line s.hn.toNat), trivial⟩ ⟨oe (toD hN), trivial⟩ 2 (rlockL []) lockP [(0, 0), (2, 3), (3, 2)]
      · exact absurd hc (by rintro (h | h) <;> contradiction)
theorem beginR_Sg {s : St} (hv : Inv s) (hi : Hand s) (hk : s.hk = 1) (hs : -1 ≤ supplyR s) (hc : ¬ (s.x = s.hn ∨ s.sh s.hn.toNat = true)) : RC 91 [] s { s with su := supplyR s, wt := 2 } [if supplyR s = -1 then ⟨1, s.hn, s.op, 1, 0, 0⟩ else ⟨2, supplyR s, s.op, 0, s.hn, 0⟩] := by
  have g1 := hi.1
  have g2 := hi.2
  have g3 := hv.owner
  refine RC.mk (cap := 1) ?_
  · by_cases h0 : ((s.x) : Int) = (s.hn)
    · exact absurd (by first | exact Or.inl h0 | exact Or.inr h1) hc
    · by_cases h1 : s.sh s.hn.toNat = true
      · exact absurd (by first | exact Or.inl h0 | exact Or.inr h1) hc
      · by_cases h2 : (((supplyR s)) : Int) < (0)
        · rw [if_pos (by omega)]
          exact pth (dr s [.bool (s.sh s.hn.toNat), iv (supplyR s)] [olv 1 s.line, .v (pt 0 (2 + s.hn.toNat))] [encL s.line]) ⟨[kt .eql 32 (sv 28) (iv 1), kf .eql 3 (sv 0) (sv 27), kx 48 0 2 27 1, tf 40, kt .lss 3 (sv 41) (iv 0)], [], [([4, 1000000], eLdR 1 2 [] 1 0 40)]⟩ [(103, [eSuR 2 [] 1 0 41])] ⟨eT s.hk 1, eF s.x s.hn, iA u48 z4 rfl rfl, tB (Bool.eq_false_iff.2 h1), qT ((((supplyR s)) : Int) < 0), trivial⟩ trivial ⟨ld (lsh s s.line s.hn.toNat), trivial⟩ ⟨oe (supplyRM_ctr s (by omega) (by omega)), trivial⟩ 2 (rlockL []) lockP [(0, 0), (1, 3), (2, 2)]
        · rw [if_neg (by omega)]
          exact pth (dr s [.bool (s.sh s.hn.toNat), iv (supplyR s)] [olv 1 s.line, .v (pt 0 (2 + s.hn.toNat))] [encL s.line]) ⟨[kt .eql 32 (sv 28) (iv 1), kf .eql 3 (sv 0) (sv 27), kx 48 0 2 27 1, tf 40, kf .lss 3 (sv 41) (iv 0)], [], [([4, 1000000], eLdR 1 2 [] 1 0 40)]⟩ [(103, [eSuR 2 [] 1 0 41])] ⟨eT s.hk 1, eF s.x s.hn, iA u48 z4 rfl rfl, tB (Bool.eq_false_iff.2 h1), qF ((((supplyR s)) : Int) < 0), trivial⟩ trivial ⟨ld (lsh s s.line s.hn.toNat), trivial⟩ ⟨oe (supplyRM_ctr s (by omega) (by omega)), trivial⟩ 2 (rlockL []) lockP [(0, 0), (1, 3), (2, 2)]
theorem beginR_Cd {s t : St} {o : List Ord} (hi : Hand s) (hk : s.hk ≠ 1 ∧ s.hk ≠ 2) (hc : s.owner = -1) (h : RC 92 [] { s with pa := upd s.pa s.hn.toNat true } t o) : RC 91 [] s t o := by
  obtain ⟨cap, hcap, hN⟩ := h
  have g1 := hi.1
  have g2 := hi.2
  refine RC.mk (cap := cap) ?_
  · by_cases h0 : ((s.owner) : Int) < (0)
    · skip
      exact pth (dr s (b8 (upd s.pa s.hn.toNat true) ++ tv t) [olv 1 s.line, .v (pt 0 (10 + s.hn.toNat)), olv 2 t.line, oord 3 cap o] [encL s.line, encL t.line, encOrds o]) ⟨[kf .eql 32 (sv 28) (iv 1), kf .eql 32 (sv 28) (iv 2), kx 48 0 10 27 1, kt .lss 3 (sv 1) (iv 0)], [], [([4, 1000001], eStR 1 (.bool true) 2 [] (p8 10 40) 1 0)]⟩ [(92, [eCR [pt 0 0] 2 (p8 10 40) 48 2 1 0 1 2 (ch 3)])] ⟨eF s.hk 1, eF s.hk 2, iA u48 z4 rfl rfl, qT (s.owner < 0), trivial⟩ trivial ⟨st (spa s s.line s.hn.toNat true), trivial⟩ ⟨oe (toD hN), trivial⟩ 2 (rlockL []) lockP [(0, 0), (2, 3), (3, 2)]
    · exact absurd hc (by omega)
theorem beginR_Cg {s : St} (hv : Inv s) (hi : Hand s) (hk : s.hk ≠ 1 ∧ s.hk ≠ 2) (hc : ¬ s.owner = -1) : RC 91 [] s { s with pa := upd s.pa s.hn.toNat true, wt := 3 } [⟨5, s.owner, s.op, 0, 0, 0⟩] := by
  have g1 := hi.1
  have g2 := hi.2
  have g3 := hv.owner
  refine RC.mk (cap := 1) ?_
  · by_cases h0 : ((s.owner) : Int) < (0)
    · exact absurd h0 (by omega)
    · skip
      exact pth (dr s (b8 (upd s.pa s.hn.toNat true)) [olv 1 s.line, .v (pt 0 (10 + s.hn.toNat))] [encL s.line]) ⟨[kf .eql 32 (sv 28) (iv 1), kf .eql 32 (sv 28) (iv 2), kx 48 0 10 27 1, kf .lss 3 (sv 1) (iv 0)], [], [([4, 1000001], eStR 1 (.bool true) 2 [] (p8 10 40) 1 0)]⟩ [] ⟨eF s.hk 1, eF s.hk 2, iA u48 z4 rfl rfl, qF (s.owner < 0), trivial⟩ trivial ⟨st (spa s s.line s.hn.toNat true), trivial⟩ trivial 2 (rlockL []) lockP [(0, 0), (1, 3), (2, 2)]
theorem beginR_Ed {s t : St} {o : List Ord} (hk : s.hk = 2) (hx : s.x = s.hn) (h : RC 89 [] s t o) : RC 91 [] s t o := by
  obtain ⟨cap, hcap, hN⟩ := h
  refine RC.mk (cap := cap) ?_
  · by_cases h0 : ((s.x) : Int) = (s.hn)
    · skip
      exact pth (dr s (tv t) [olv 1 s.line, olv 2 t.line, oord 3 cap o] [encL s.line, encL t.line, encOrds o]) ⟨[kf .eql 32 (sv 28) (iv 1), kt .eql 32 (sv 28) (iv 2), kt .eql 3 (sv 0) (sv 27)], [], []⟩ [(89, [eCR [pt 0 0] 2 [] 40 1 1 0 1 2 (ch 2)])] ⟨eF s.hk 1, eT s.hk 2, eT s.x s.hn, trivial⟩ trivial trivial ⟨oe (toD hN), trivial⟩ 2 (rlockL []) lockP [(0, 0), (2, 3), (3, 2)]
    · exact absurd hx h0
def goneB (s : St) (i : Nat) : Bool := s.sh i && !decide ((i : Int) = s.hn) && !decide ((i : Int) = s.su)
def stB (s : St) (i : Nat) : St := { s with go := upd s.go i (goneB s i) }
def outB (s : St) (i : Nat) (out : List Ord) : List Ord := if goneB s i = true then out ++ [⟨4, (i : Nat), s.op, 0, 0, 0⟩] else out
noncomputable abbrev dB (s : St) (out : List Ord) (i : Nat) : Den := dr s [.int .i64 (i : Nat)] [olv 1 s.line, oord 2 INF out] [encL s.line, encOrds out]
noncomputable def kB : List KI := ((ksteps (@rec ⟨[], [], []⟩ Try.prog noTbl 100) 27 (startC Try.prog 91 lockP 2 (hl0 2))).map (·.k)).getD []
noncomputable def xB : Cfg := headC kB .normal [(0, .pointer (some ⟨0, 0, none⟩)), (3, sv 27), (4, .chan (some 1)), (5, sv 40)] 151 3 (rlockL [] ++ [(2, .mrow 45 1 false)])
theorem beginStep (s : St) (out : List Ord) (i : Nat) (hi : i < 8) (hlen : out.length < 1000) (A B : HL) (res : Value) (h : GoodS (dB (stB s i) (outB s i out) (i + 1)) Try.prog 91 A res B [0] xB) : GoodS (dB s out i) Try.prog 91 A res B [0] xB := by
  · by_cases h0 : s.sh i = true
    · by_cases h1 : (((i : Nat)) : Int) = (s.hn)
      · have hg : goneB s i = false := by simp [goneB, h0, h1]
        simp only [stB, outB, hg, Bool.false_eq_true, if_false] at h
        exact gS (dr s ([iv (i : Nat), .bool (s.sh i)] ++ b8 (upd s.go i false) ++ [.bool ((upd s.go i false) i), iv ((i + 1 : Nat) : Int)]) [olv 1 s.line, oord 2 INF out, .v (pt 0 (2 + i)), .v (pt 0 (30 + i))] [encL s.line, encOrds out]) _ ⟨[kt .lss 3 (sv 40) (iv 8), kx 48 0 2 40 2, tt 41, kf .neq 3 (sv 40) (sv 27), kx 48 0 30 40 3, tf 50, (.bin .add 3 (sv 40) (iv 1), sv 51)], [], [([4, 1000000], eLdR 2 3 [] 1 0 41), ([4, 1000001], eStR 3 (.bool false) 3 [] (p8 30 42) 1 0), ([4, 1000000], eLdR 3 3 (p8 30 42) 1 0 50)]⟩ [] ⟨qT ((i : Int) < 8), iA u48 z4 rfl rfl, tB h0, nF (((i : Nat)) : Int) s.hn, iA u48 z4 rfl rfl, tB (b := (upd s.go i false) i) (upd_same _ _ _), asP (u := iv ((i + 1 : Nat) : Int)) (Eq.trans (b := some (iv (IntKind.i64.wrap ((i : Int) + 1)))) (by kernel_rfl) (by rw [wrap_id (by omega) (by omega)]; rfl)) (by kernel_rfl), trivial⟩ trivial ⟨ld (lsh s s.line i), st (sgo s s.line i false), ld (lgo { s with go := (upd s.go i false) : St } s.line i), trivial⟩ trivial 14 [(0, 0), (1, 1), (2, 2)] h
      · by_cases h2 : (((i : Nat)) : Int) = (s.su)
        · have hg : goneB s i = false := by simp [goneB, h0, h2]
          simp only [stB, outB, hg, Bool.false_eq_true, if_false] at h
          exact gS (dr s ([iv (i : Nat), .bool (s.sh i)] ++ b8 (upd s.go i false) ++ [.bool ((upd s.go i false) i), iv ((i + 1 : Nat) : Int)]) [olv 1 s.line, oord 2 INF out, .v (pt 0 (2 + i)), .v (pt 0 (30 + i))] [encL s.line, encOrds out]) _ ⟨[kt .lss 3 (sv 40) (iv 8), kx 48 0 2 40 2, tt 41, kt .neq 3 (sv 40) (sv 27), kf .neq 3 (sv 40) (sv 38), kx 48 0 30 40 3, tf 50, (.bin .add 3 (sv 40) (iv 1), sv 51)], [], [([4, 1000000], eLdR 2 3 [] 1 0 41), ([4, 1000001], eStR 3 (.bool false) 3 [] (p8 30 42) 1 0), ([4, 1000000], eLdR 3 3 (p8 30 42) 1 0 50)]⟩ [] ⟨qT ((i : Int) < 8), iA u48 z4 rfl rfl, tB h0, nT (((i : Nat)) : Int) s.hn, nF (((i : Nat)) : Int) s.su, iA u48 z4 rfl rfl, tB (b := (upd s.go i false) i) (upd_same _ _ _), asP (u := iv ((i + 1 : Nat) : Int)) (Eq.trans (b := some (iv (IntKind.i64.wrap ((i : Int) + 1)))) (by kernel_rfl) (by rw [wrap_id (by omega) (by omega)]; rfl)) (by kernel_rfl), trivial⟩ trivial ⟨ld (lsh s s.line i), st (sgo s s.line i false), ld (lgo { s with go := (upd s.go i false) : St } s.line i), trivial⟩ trivial 14 [(0, 0), (1, 1), (2, 2)] h
        · have hg : goneB s i = true := by simp [goneB, h0, h1, h2]
          simp only [stB, outB, hg, if_true] at h
          exact gS (dr s ([iv (i : Nat), .bool (s.sh i)] ++ b8 (upd s.go i true) ++ [.bool ((upd s.go i true) i), iv ((i + 1 : Nat) : Int)]) [olv 1 s.line, oord 2 INF out, .v (pt 0 (2 + i)), .v (pt 0 (30 + i)), oord 4 INF (out ++ [⟨(4), ((i : Nat)), (s.op), (0), (0), (0)⟩])] [encL s.line, encOrds out, encOrds (out ++ [⟨(4), ((i : Nat)), (s.op), (0), (0), (0)⟩])]) _ ⟨[kt .lss 3 (sv 40) (iv 8), kx 48 0 2 40 2, tt 41, kt .neq 3 (sv 40) (sv 27), kt .neq 3 (sv 40) (sv 38), kx 48 0 30 40 3, tt 50, (.bin .add 3 (sv 40) (iv 1), sv 51)], [], [([4, 1000000], eLdR 2 3 [] 1 0 41), ([4, 1000001], eStR 3 (.bool true) 3 [] (p8 30 42) 1 0), ([4, 1000000], eLdR 3 3 (p8 30 42) 1 0 50), ([28, 28], eApO 1 3 4 2 1 [iv 4, sv 40, sv 39, iv 0, iv 0, iv 0] 2 4)]⟩ [] ⟨qT ((i : Int) < 8), iA u48 z4 rfl rfl, tB h0, nT (((i : Nat)) : Int) s.hn, nT (((i : Nat)) : Int) s.su, iA u48 z4 rfl rfl, tB (b := (upd s.go i true) i) (upd_same _ _ _), asP (u := iv ((i + 1 : Nat) : Int)) (Eq.trans (b := some (iv (IntKind.i64.wrap ((i : Int) + 1)))) (by kernel_rfl) (by rw [wrap_id (by omega) (by omega)]; rfl)) (by kernel_rfl), trivial⟩ trivial ⟨ld (lsh s s.line i), st (sgo s s.line i true), ld (lgo { s with go := (upd s.go i true) : St } s.line i), ap (app_oR out ⟨(4), ((i : Nat)), (s.op), (0), (0), (0)⟩ 1 (by omega)), trivial⟩ trivial 14 [(0, 0), (1, 1), (4, 2)] h
    · have hg : goneB s i = false := by simp [goneB, h0]
      simp only [stB, outB, hg, Bool.false_eq_true, if_false] at h
      exact gS (dr s ([iv (i : Nat), .bool (s.sh i)] ++ b8 (upd s.go i false) ++ [.bool ((upd s.go i false) i), iv ((i + 1 : Nat) : Int)]) [olv 1 s.line, oord 2 INF out, .v (pt 0 (2 + i)), .v (pt 0 (30 + i))] [encL s.line, encOrds out]) _ ⟨[kt .lss 3 (sv 40) (iv 8), kx 48 0 2 40 2, tf 41, kx 48 0 30 40 3, tf 50, (.bin .add 3 (sv 40) (iv 1), sv 51)], [], [([4, 1000000], eLdR 2 3 [] 1 0 41), ([4, 1000001], eStR 3 (.bool false) 3 [] (p8 30 42) 1 0), ([4, 1000000], eLdR 3 3 (p8 30 42) 1 0 50)]⟩ [] ⟨qT ((i : Int) < 8), iA u48 z4 rfl rfl, tB (Bool.eq_false_iff.2 h0), iA u48 z4 rfl rfl, tB (b := (upd s.go i false) i) (upd_same _ _ _), asP (u := iv ((i + 1 : Nat) : Int)) (Eq.trans (b := some (iv (IntKind.i64.wrap ((i : Int) + 1)))) (by kernel_rfl) (by rw [wrap_id (by omega) (by omega)]; rfl)) (by kernel_rfl), trivial⟩ trivial ⟨ld (lsh s s.line i), st (sgo s s.line i false), ld (lgo { s with go := (upd s.go i false) : St } s.line i), trivial⟩ trivial 14 [(0, 0), (1, 1), (2, 2)] h
theorem beginEndC (s0 s : St) (x : Ord) (l : List Ord) : GoodS (dB s (x :: l) 8) Try.prog 91 (rlock 1 s0) (ordR 2 INF (x :: l)) (rlockB { s with wt := 1 } (x :: l)) [0] xB := by
  · exact gF (dr s [iv (8 : Nat), iv ((x :: l).length : Nat)] [olv 1 s.line, oord 2 INF (x :: l)] [encL s.line, encOrds (x :: l)]) ⟨[kf .lss 3 (sv 40) (iv 8), (.len 28 (ch 1), sv 41), kt .gtr 3 (sv 41) (iv 0)], [], []⟩ [] ⟨qF (((8 : Nat) : Int) < 8), asLen u28 rfl (by kernel_rfl), qT (((x :: l).length : Int) > 0) (by simp only [List.length_cons]; omega), trivial⟩ trivial trivial trivial 14 [(0, 0), (1, 3), (2, 2)]
theorem beginEndN (s0 : St) {s t : St} {o : List Ord} {cap : Nat} (hN : Ctr Try.prog 104 lockP (rlock 1 s) (ordR 2 cap o) (rlockB t o)) : GoodS (dB s [] 8) Try.prog 91 (rlock 1 s0) (ordR 2 cap o) (rlockB t o) [0] xB := by
  · exact gF (dr s ([iv (8 : Nat)] ++ tv t) [olv 1 s.line, oord 2 INF [], olv 3 t.line, oord 4 cap o] [encL s.line, encOrds [], encL t.line, encOrds o]) ⟨[kf .lss 3 (sv 40) (iv 8), (.len 28 (ch 1), iv 0)], [], []⟩ [(104, [eCR [pt 0 0] 3 [] 41 2 1 0 2 3 (ch 3)])] ⟨qF (((8 : Nat) : Int) < 8), asLen u28 rfl (by kernel_rfl), trivial⟩ trivial trivial ⟨oe (toD hN), trivial⟩ 16 [(0, 0), (3, 3), (4, 2)]
end Go.Proofs.Ytjpgnjaobfbojaa
namespace Go.Proofs.Ytjpgnjaobfbojaa
open Go.Sx
set_option maxRecDepth 20000
def itB : St → Nat → Nat → List Ord → St × List Ord
  | s, 0, _, out => (s, out)
  | s, k + 1, i, out => itB (stB s i) k (i + 1) (outB s i out)
theorem outB_len (s : St) (i : Nat) (out : List Ord) (h : out.length ≤ i) : (outB s i out).length ≤ i + 1 := by
  unfold outB
  split
  · simp; omega
  · omega
theorem beginLoop (A B : HL) (res : Value) : ∀ (k : Nat) (s : St) (i : Nat) (out : List Ord), i + k = 8 → out.length ≤ i → GoodS (dB (itB s k i out).1 (itB s k i out).2 8) Try.prog 91 A res B [0] xB → GoodS (dB s out i) Try.prog 91 A res B [0] xB
  | 0, s, i, out, hi, _, h => by
    have : i = 8 := by omega
    subst this; exact h
  | k + 1, s, i, out, hi, hl, h => beginStep s out i (by omega) (by omega) A B res (beginLoop A B res k (stB s i) (i + 1) (outB s i out) (by omega) (outB_len s i out hl) h)
theorem itB_out : ∀ (k : Nat) (s : St) (i : Nat) (out : List Ord), out = dropsM s.op (listTo (goneB s) i) → (itB s k i out).2 = dropsM s.op (listTo (goneB s) (i + k))
  | 0, s, i, out, h => h
  | k + 1, s, i, out, h => by
    have := itB_out k (stB s i) (i + 1) (outB s i out) (by
      subst h
      show outB s i _ = dropsM s.op (listTo (goneB s) (i + 1))
      unfold outB
      simp only [listTo]
      split
      · unfold dropsM; rw [List.map_append]; rfl
      · rfl)
    rw [show i + (k + 1) = i + 1 + k from by omega]
    exact this
theorem itB_eq : ∀ (k : Nat) (s : St) (i : Nat) (out : List Ord), (itB s k i out).1 = { s with go := (itB s k i out).1.go }
  | 0, _, _, _ => rfl
  | k + 1, s, i, out => itB_eq k (stB s i) (i + 1) (outB s i out)
theorem itB_go : ∀ (k : Nat) (s : St) (i : Nat) (out : List Ord) (n : Nat), (itB s k i out).1.go n = if i ≤ n ∧ n < i + k then goneB s n else s.go n
  | 0, s, i, out, n => by rw [if_neg (by omega)]; rfl
  | k + 1, s, i, out, n => by
    have h := itB_go k (stB s i) (i + 1) (outB s i out) n
    show (itB (stB s i) k (i + 1) (outB s i out)).1.go n = _
    rw [h]
    by_cases h1 : n = i
    · subst h1
      rw [if_neg (by omega), if_pos (by omega)]
      exact upd_same _ _ _
    · have h2 : (stB s i).go n = s.go n := if_neg h1
      rw [h2]
      by_cases h3 : i + 1 ≤ n ∧ n < i + 1 + k
      · rw [if_pos h3, if_pos (by omega)]; rfl
      · rw [if_neg h3, if_neg (by omega)]
theorem listTo_congr {f g : Nat → Bool} : ∀ (k : Nat), (∀ n, n < k → f n = g n) → listTo f k = listTo g k
  | 0, _ => rfl
  | k + 1, h => by
    simp only [listTo]
    rw [h k (by omega), listTo_congr k fun n hn => h n (by omega)]
theorem goneM_eq {s : St} (hi : Hand s) (hs : -1 ≤ s.su ∧ s.su < 8) (n : Nat) : goneM s n = goneB s n := by
  have h1 := hi.1
  have e1 : (n = s.hn.toNat) ↔ ((n : Int) = s.hn) := by omega
  unfold goneM goneB
  by_cases hu : s.su = -1
  · rw [if_pos hu]
    have e2 : ¬ ((n : Int) = s.su) := by omega
    unfold upd
    by_cases h : n = s.hn.toNat
    · rw [if_pos h]; simp [e1.1 h]
    · rw [if_neg h]; simp [mt e1.2 h, e2]
  · rw [if_neg hu]
    have e2 : (n = s.su.toNat) ↔ ((n : Int) = s.su) := by omega
    unfold upd
    by_cases h2 : n = s.su.toNat
    · rw [if_pos h2]; simp [e2.1 h2]
    · rw [if_neg h2]
      by_cases h : n = s.hn.toNat
      · rw [if_pos h]; simp [e1.1 h]
      · rw [if_neg h]; simp [mt e1.2 h, mt e2.2 h2]
theorem rlockB_go (t : St) {g g' : Nat → Bool} (o : List Ord) (h : ∀ n, n < 8 → g n = g' n) : rlockB { t with go := g } o = rlockB { t with go := g' } o := by
  unfold rlockB bookR
  simp only [cells, h 0 (by omega), h 1 (by omega), h 2 (by omega), h 3 (by omega), h 4 (by omega), h 5 (by omega), h 6 (by omega), h 7 (by omega)]
theorem beginR_Eh {s : St} {B : HL} {res : Value} (hv : Inv s) (hi : Hand s) (hk : s.hk = 2) (hx : ¬ s.x = s.hn) (h : GoodS (dB { s with su := supplyR s } [] 0) Try.prog 91 (rlock 1 s) res B [0] xB) : Ctr Try.prog 91 (lockP ++ []) (rlock 1 s) res B := by
  have g1 := hi.1
  have g2 := hi.2
  have g3 := hv.owner
  obtain ⟨s1, hs1⟩ : ∃ s1, s1 = { s with su := supplyR s } := ⟨_, rfl⟩
  have hL : GoodS (dB { s with su := supplyR s } [] 0) Try.prog 91 (rlock 1 s) res B [0] (headC kB .normal [(0, .pointer (some ⟨0, 0, none⟩)), (3, sv 27), (4, .slice none 0 0), (5, .int .i64 0)] 151 2 (rlockL [])) :=
    goodS_ghost (c' := 3) 2 1 45 false rfl rfl (@goodS_seg (dB { s with su := supplyR s } [] 0) (dB { s with su := supplyR s } [] 0) Try.prog mixed ⟨[], [], []⟩ [] trivial trivial trivial trivial 100 0 91 _ _ _ _ _ [(0, 0), (1, 1), (2, 2)] [] _ _ _ _ _ _ (by kernel_rfl) (by kernel_rfl) (by kernel_rfl) h)
  · by_cases h0 : ((s.x) : Int) = (s.hn)
    · exact absurd h0 hx
    · refine Ctr.of_goodS (d := (dr s [iv (supplyR s)] [olv 1 s.line] [encL s.line])) [0] (c0 := 2) (A0 := rlockL []) (args0 := lockP) (by kernel_rfl) (by kernel_rfl) (by kernel_rfl) ?_
      exact @goodS_seg (dr s [iv (supplyR s)] [olv 1 s.line] [encL s.line]) (dB { s with su := supplyR s } [] 0) Try.prog mixed ⟨[kf .eql 32 (sv 28) (iv 1), kt .eql 32 (sv 28) (iv 2), kf .eql 3 (sv 0) (sv 27)], [], []⟩ [(103, [eSuR 2 [] 1 0 40])] ⟨eF s.hk 1, eT s.hk 2, eF s.x s.hn, trivial⟩ trivial trivial ⟨oe (supplyRM_ctr s (by omega) (by omega)), trivial⟩ 100 27 91 _ _ _ _ _ [(0, 0), (1, 1)] [] kB .normal [(0, pt 0 0), (3, sv 27), (4, .slice none 0 0), (5, iv 0)] 151 2 (rlockL []) (by kernel_rfl) (by kernel_rfl) (by kernel_rfl) hL
theorem supplyR_bound {s : St} (hv : Inv s) (hk : s.hk = 2 ∨ ¬ s.sh s.hn.toNat = true) : -1 ≤ supplyR s ∧ supplyR s < 8 := by
  rw [supplyR_eq hv hk]; exact supply_bound hv
theorem beginR_E {nx : St → St × List Ord} {s : St} (hv : Inv s) (hi : Hand s) (hk : s.hk = 2) (hd : RC 89 [] s (nx (reset s)).1 (nx (reset s)).2) : RC 91 [] s (beginE nx s).1 (beginE nx s).2 := by
  unfold beginE
  by_cases hx : s.x = s.hn
  · rw [if_pos hx]; exact beginR_Ed hk hx hd
  · rw [if_neg hx, ← supplyR_eq hv (.inl hk)]
    have hs := supplyR_bound hv (.inl hk)
    obtain ⟨s1, hs1⟩ : ∃ s1 : St, s1 = { s with su := supplyR s } := ⟨_, rfl⟩
    have hb : -1 ≤ s1.su ∧ s1.su < 8 := by rw [hs1]; exact hs
    have hi1 : Hand s1 := by rw [hs1]; exact hi
    have hop : s1.op = s.op := by rw [hs1]
    have hg : ∀ n, n < 8 → (itB s1 8 0 []).1.go n = goneM s1 n := fun n hn => by
      rw [itB_go, if_pos (by omega), goneM_eq hi1 hb]
    have ho : (itB s1 8 0 []).2 = dropsM s1.op (listTo (goneM s1) 8) := by
      rw [itB_out 8 s1 0 [] rfl, listTo_congr 8 (fun n _ => goneM_eq hi1 hb n)]
    have he := itB_eq 8 s1 0 []
    have loop := fun (B : HL) (res : Value) => beginLoop (rlock 1 s) B res 8 s1 0 [] rfl (Nat.le_refl _)
    show RC 91 [] s (if listTo (goneM { s with su := supplyR s }) 8 = [] then onM { s with su := supplyR s, go := goneM { s with su := supplyR s } } else ({ s with su := supplyR s, go := goneM { s with su := supplyR s }, wt := 1 }, dropsM s.op (listTo (goneM { s with su := supplyR s }) 8))).1 (if listTo (goneM { s with su := supplyR s }) 8 = [] then onM { s with su := supplyR s, go := goneM { s with su := supplyR s } } else ({ s with su := supplyR s, go := goneM { s with su := supplyR s }, wt := 1 }, dropsM s.op (listTo (goneM { s with su := supplyR s }) 8))).2
    have head := fun {B : HL} {res : Value} (h : GoodS (dB s1 [] 0) Try.prog 91 (rlock 1 s) res B [0] xB) => beginR_Eh hv hi hk hx (by rw [← hs1]; exact h)
    rw [show ({ s with su := supplyR s, go := goneM { s with su := supplyR s } } : St) = { s1 with go := goneM s1 } from by rw [hs1], show ({ s with su := supplyR s, go := goneM { s with su := supplyR s }, wt := 1 } : St) = { s1 with go := goneM s1, wt := 1 } from by rw [hs1], ← hs1, ← hop]
    cases hl : listTo (goneM s1) 8 with
    | nil =>
      rw [if_pos rfl]
      rw [hl] at ho
      have ho' : (itB s1 8 0 []).2 = [] := ho
      have e2 : (onM (itB s1 8 0 []).1).2 = (onM { s1 with go := goneM s1 }).2 := by rw [he]; rfl
      have e3 : rlockB (onM (itB s1 8 0 []).1).1 (onM { s1 with go := goneM s1 }).2 = rlockB (onM { s1 with go := goneM s1 }).1 (onM { s1 with go := goneM s1 }).2 := by
        rw [he]
        exact rlockB_go { s1 with wt := 2 } _ hg
      obtain ⟨cap, hc, hN⟩ := on_ctr (itB s1 8 0 []).1 (by rw [he]; exact hb.1)
      rw [e2] at hc hN
      have hE := beginEndN s hN
      rw [e3] at hE
      exact RC.mk (cap := cap) (head (loop _ _ (by rw [ho']; exact hE))) hc
    | cons x l =>
      rw [if_neg (by simp)]
      rw [hl] at ho
      have hE := beginEndC s (itB s1 8 0 []).1 ⟨4, x, s1.op, 0, 0, 0⟩ (dropsM s1.op l)
      have e3 : rlockB { (itB s1 8 0 []).1 with wt := 1 } (⟨4, x, s1.op, 0, 0, 0⟩ :: dropsM s1.op l) = rlockB { s1 with go := goneM s1, wt := 1 } (dropsM s1.op (x :: l)) := by
        rw [he]
        exact rlockB_go { s1 with wt := 1 } _ hg
      rw [e3] at hE
      exact RC.mk (cap := INF) (head (loop _ _ (by rw [ho]; exact hE)))
def eApM (r a c id j : Nat) (cl : List Value) (j' k' : Nat) : Entry := { args := [.slice (some ⟨a, 0, none⟩) 1 1, .chan (some r)], c := c, foots := [⟨a, 0, true, .row 45 (.lst cl) false, .dead⟩, ⟨id, 1, true, .mrow 45 j false, .dead⟩], news := [(2, .mrow 45 j' false)], res := .chan (some k') }
def eApL (r c j' k' : Nat) : Entry := { args := [.slice none 0 0, .chan (some r)], c := c, foots := [⟨1, 1, true, .orow 34 0 false, .orow 34 0 false⟩], news := [(2, .mrow 34 j' false)], res := .chan (some k') }
def rlockLo (pin : List (Nat × Value)) : HL := [(0, .row 52 (.lst (syms pin)) false), (1, .orow 34 0 false)]
theorem app_restR (x y : Int × Int) (r : List (Int × Int)) (h : (y :: r).length < 1000000) : AppC Try.prog [31, 31] [.slice none 0 0, .slice (some ⟨1, 2, none⟩) (y :: r).length (INF - 1)] [(1, .row 34 (.lst (encL (x :: y :: r))) true)] (.slice (some ⟨2, 0, none⟩) (y :: r).length INF) [(2, .row 34 (.lst (encL (y :: r))) false)] := by
  have h := AppC.nil (P := Try.prog) elemW (l := encL (x :: y :: r)) (m := (y :: r).length) (off := 2) (cp := INF - 1) (T := 34) (by simp) (by rw [encL_len]; simp only [List.length_cons]; omega) (encL_plain _) (by omega) (by unfold HALF; omega)
  have e : ((encL (x :: y :: r)).drop 2).take ((y :: r).length * 2) = encL (y :: r) := by
    show (encL (y :: r)).take ((y :: r).length * 2) = _
    rw [List.take_of_length_le (by rw [encL_len]; omega)]
  rw [e] at h
  exact h
theorem noGhost1 {g : FuncId} {args : List Value} {u : St} {res : Value} {B : HL} (hl : u.line = []) (h : Ctr Try.prog g args (rlock 1 u) res B) : Ctr Try.prog g args (bookR u (.slice none 0 0) []) res B := by
  unfold rlock lineO at h
  rw [hl] at h
  exact ctr_noGhost (A := bookR u (.slice none 0 0) []) (b := 1) (T := 34) (ro := false) h rfl
theorem needlessR {s t : St} {o : List Ord} (hi : Hand s) (hlen : o.length < 1000000) (h : RC 89 [] { s with pa := upd s.pa s.hn.toNat false } t o) : RC 92 [] s t (⟨6, s.hn, 0, 0, 0, 2147483647⟩ :: o) := by
  obtain ⟨cap, hcap, hN⟩ := h
  have g1 := hi.1
  have g2 := hi.2
  cases o with
  | nil =>
    refine RC.mk (cap := 1) ?_
    · skip
      exact pth (dr s (b8 (upd s.pa s.hn.toNat false) ++ tv t) [olv 1 s.line, .v (pt 0 (10 + s.hn.toNat)), olv 3 t.line, oord 4 cap ([] : List Ord)] [encL s.line, encL t.line, encOrds ([] : List Ord)]) ⟨[kx 48 0 10 27 1], [], [([4, 1000001], eStR 1 (.bool false) 2 [] (p8 10 40) 1 0)]⟩ [(89, [eCR [pt 0 0] 3 (p8 10 40) 48 2 1 0 1 2 (.slice none 0 0)])] ⟨iA u48 z4 rfl rfl, trivial⟩ trivial ⟨st (spa s s.line s.hn.toNat false), trivial⟩ ⟨oe (toD hN), trivial⟩ 2 (rlockL []) lockP [(0, 0), (3, 3), (2, 2)]
  | cons x l =>
    refine RC.mk (cap := INF) ?_
    · skip
      exact pth (dr s (b8 (upd s.pa s.hn.toNat false) ++ tv t) [olv 1 s.line, .v (pt 0 (10 + s.hn.toNat)), olv 3 t.line, .v (.slice (some ⟨4, 0, none⟩) (x :: l).length cap), oord 5 INF (⟨(6), (s.hn), (0), (0), (0), (2147483647)⟩ :: x :: l)] [encL s.line, encL t.line, encOrds (x :: l), encOrds (⟨(6), (s.hn), (0), (0), (0), (2147483647)⟩ :: x :: l)]) ⟨[kx 48 0 10 27 1], [], [([4, 1000001], eStR 1 (.bool false) 2 [] (p8 10 40) 1 0), ([28, 28], eApM 3 2 5 4 2 [iv 6, sv 27, iv 0, iv 0, iv 0, iv 2147483647] 3 4)]⟩ [(89, [eCR [pt 0 0] 3 (p8 10 40) 48 2 1 0 1 2 (ch 3)])] ⟨iA u48 z4 rfl rfl, trivial⟩ trivial ⟨st (spa s s.line s.hn.toNat false), ap (app_ords_one ⟨(6), (s.hn), (0), (0), (0), (2147483647)⟩ x l cap hlen), trivial⟩ ⟨oe (toD hN), trivial⟩ 2 (rlockL []) lockP [(0, 0), (3, 3), (5, 2)]
theorem doneR_nil (s : St) : RC 89 [] { s with line := [] } (reset { s with line := [] }) [] := by
  refine RC.mkN ?_
  · skip
    exact pth (dr s [] [olv 1 []] [encL []]) ⟨[(.len 31 (ch 0), iv 0)], [], []⟩ [] ⟨asLen u31 rfl (by kernel_rfl), trivial⟩ trivial trivial trivial 2 (rlockL []) lockP [(0, 0), (1, 3)]
theorem doneR_one {s t : St} {w : Int × Int} {o : List Ord} (hop : 0 ≤ s.op ∧ s.op < 4611686018427387904) (h : RC 91 [] { reset s with hn := w.1, hk := w.2, line := [], op := s.op + 1 } t o) : RC 89 [] { s with line := [w] } t o := by
  obtain ⟨cap, hcap, hN⟩ := h
  refine RC.mk (cap := cap) ?_
  · skip
    exact pth (dr s ([iv ([w].length : Nat), iv w.1, iv w.2, iv ((s.op) + (1))] ++ tv t) [.v (lvS [w].length INF), .v (pt 1 0), olv 2 t.line, oord 3 cap o] [encL [w], encL t.line, encOrds o]) ⟨[(.len 31 (ch 0), sv 40), kf .eql 3 (sv 40) (iv 0), (.ixa 31 (ch 0) (iv 0), ch 1), (.sli 31 (ch 0) (some (iv 1)) none none, .slice (some ⟨1, 2, none⟩) 0 4611686018427387903), (.bin .add 2 (sv 39) (iv 1), sv 43)], [⟨34, 1, 1, 0, .agg #[sv 41, sv 42]⟩], []⟩ [(91, [eCRn [pt 0 0] 2 [(26, .slice none 0 0), (27, sv 41), (28, sv 42), (29, iv 0), (30, .bool false), (31, .bool false), (32, .bool false), (33, .bool false), (34, .bool false), (35, .bool false), (36, .bool false), (37, .bool false), (38, iv (-1)), (39, sv 43)] 44 2 1 2 (ch 3)])] ⟨asLen u31 rfl (by kernel_rfl), asB (c := ((([w].length : Nat) : Int) == 0)) (by kernel_rfl) (beq_eq_false_iff_ne.2 (by simp only [List.length_cons, List.length_nil]; omega)), asIxaN u31 z34 rfl (by omega) (by simp only [List.length_cons]; omega) rfl rfl, sliLine (m := 0) rfl rfl (by omega), asP (u := iv ((s.op) + (1))) (Eq.trans (b := some (iv (IntKind.i64.wrap ((s.op) + (1))))) (by kernel_rfl) (by rw [wrap_id (by omega) (by omega)])) (by kernel_rfl), trivial⟩ ⟨ld_agg a34 z34 rfl (Nat.le_add_left 2 _) rfl rfl (by kernel_rfl), trivial⟩ trivial ⟨oe (noGhost1 rfl hN), trivial⟩ 2 (rlockLo []) lockP [(0, 0), (2, 3), (3, 2)]
theorem doneR_cons {s t : St} {w y : Int × Int} {r : List (Int × Int)} {o : List Ord} (hop : 0 ≤ s.op ∧ s.op < 4611686018427387904) (hl2 : (y :: r).length < 1000000) (h : RC 91 [] { reset s with hn := w.1, hk := w.2, line := y :: r, op := s.op + 1 } t o) : RC 89 [] { s with line := w :: y :: r } t o := by
  obtain ⟨cap, hcap, hN⟩ := h
  refine RC.mk (cap := cap) ?_
  · skip
    exact pth (dr s ([iv ((w :: y :: r).length : Nat), iv w.1, iv w.2, iv ((s.op) + (1))] ++ tv t) [.v (lvS (w :: y :: r).length INF), .v (pt 1 0), .v (.slice (some ⟨1, 2, none⟩) (y :: r).length (INF - 1)), olv 2 (y :: r), olv 3 t.line, oord 4 cap o] [encL (w :: y :: r), encL (y :: r), encL t.line, encOrds o]) ⟨[(.len 31 (ch 0), sv 40), kf .eql 3 (sv 40) (iv 0), (.ixa 31 (ch 0) (iv 0), ch 1), (.sli 31 (ch 0) (some (iv 1)) none none, ch 2), (.bin .add 2 (sv 39) (iv 1), sv 43)], [⟨34, 1, 1, 0, .agg #[sv 41, sv 42]⟩], [([31, 31], eApL 2 2 1 3)]⟩ [(91, [eCR [pt 0 0] 3 [(26, ch 3), (27, sv 41), (28, sv 42), (29, iv 0), (30, .bool false), (31, .bool false), (32, .bool false), (33, .bool false), (34, .bool false), (35, .bool false), (36, .bool false), (37, .bool false), (38, iv (-1)), (39, sv 43)] 44 4 2 1 2 3 (ch 5)])] ⟨asLen u31 rfl (by kernel_rfl), asB (c := ((((w :: y :: r).length : Nat) : Int) == 0)) (by kernel_rfl) (beq_eq_false_iff_ne.2 (by simp only [List.length_cons]; omega)), asIxaN u31 z34 rfl (by omega) (by simp only [List.length_cons]; omega) rfl rfl, sliLine (m := (y :: r).length) rfl rfl hl2, asP (u := iv ((s.op) + (1))) (Eq.trans (b := some (iv (IntKind.i64.wrap ((s.op) + (1))))) (by kernel_rfl) (by rw [wrap_id (by omega) (by omega)])) (by kernel_rfl), trivial⟩ ⟨ld_agg a34 z34 rfl (Nat.le_add_left 2 _) rfl rfl (by kernel_rfl), trivial⟩ ⟨ap (app_restR w y r hl2), trivial⟩ ⟨oe (toD hN), trivial⟩ 2 (rlockLo []) lockP [(0, 0), (3, 3), (4, 2)]
theorem beginR_ctr {nx : St → St × List Ord} {s : St} (hv : Inv s) (hi : Hand s) (_hk : 1 ≤ s.hk ∧ s.hk ≤ 3) (hl : ∀ pa, (nx (reset { s with pa := pa })).2.length < 1000000) (hd : ∀ pa, RC 89 [] { s with pa := pa } (nx (reset { s with pa := pa })).1 (nx (reset { s with pa := pa })).2) : RC 91 [] s (beginM nx s).1 (beginM nx s).2 := by
  unfold beginM
  by_cases h1 : s.hk = 1
  · rw [if_pos h1]
    unfold beginS
    by_cases hx : s.x = s.hn
    · rw [if_pos hx]; exact beginR_Sd hi h1 (.inl hx) (hd s.pa)
    · rw [if_neg hx]
      by_cases hs : s.sh s.hn.toNat = true
      · rw [if_pos hs]; exact beginR_Sd hi h1 (.inr hs) (hd s.pa)
      · rw [if_neg hs, ← supplyR_eq hv (.inr hs)]
        exact beginR_Sg hv hi h1 (supplyR_bound hv (.inr hs)).1 (fun h => h.elim hx hs)
  · rw [if_neg h1]
    by_cases h2 : s.hk = 2
    · rw [if_pos h2]; exact beginR_E hv hi h2 (hd s.pa)
    · rw [if_neg h2]
      unfold beginC
      by_cases ho : s.owner = -1
      · rw [if_pos ho]
        exact beginR_Cd hi ⟨h1, h2⟩ ho (needlessR (s := { s with pa := upd s.pa s.hn.toNat true }) hi (hl _) (hd (upd (upd s.pa s.hn.toNat true) s.hn.toNat false)))
      · rw [if_neg ho]
        exact beginR_Cg hv hi ⟨h1, h2⟩ ho
theorem doneR : ∀ (n : Nat) (s : St), s.line.length ≤ n → n < 10000 → Inv s → RC 89 [] s (nextM n (reset s)).1 (nextM n (reset s)).2 := by
  intro n
  induction n with
  | zero =>
    intro s hl _ _
    have : s.line = [] := List.length_eq_zero_iff.1 (by omega)
    have h := doneR_nil s
    have e : { s with line := [] } = s := by cases s; simp only at this; subst this; rfl
    rw [e] at h
    exact h
  | succ n ih =>
    intro s hl hn hv
    cases hs : s.line with
    | nil =>
      have h := doneR_nil s
      have e : { s with line := [] } = s := by cases s; simp only at hs; subst hs; rfl
      rw [e] at h
      have e2 : nextM (n + 1) (reset s) = (reset s, []) := by
        show (match s.line with
          | [] => (reset s, [])
          | w :: rest => beginM (nextM n) { reset s with hn := w.1, hk := w.2, line := rest, op := s.op + 1 }) = _
        rw [hs]
      rw [e2]; exact h
    | cons w rest =>
      have e2 : nextM (n + 1) (reset s) = beginM (nextM n) { reset s with hn := w.1, hk := w.2, line := rest, op := s.op + 1 } := by
        show (match s.line with
          | [] => (reset s, [])
          | w :: rest => beginM (nextM n) { reset s with hn := w.1, hk := w.2, line := rest, op := s.op + 1 }) = _
        rw [hs]
      rw [e2]
      rw [hs] at hl
      simp only [List.length_cons] at hl
      have hw := hv.line w (by rw [hs]; exact List.mem_cons_self)
      have hop := hv.op
      rw [hs] at hop
      simp only [List.length_cons] at hop
      have hvu : ∀ pa, Inv { reset s with hn := w.1, hk := w.2, line := rest, op := s.op + 1, pa := pa } := fun pa => ⟨hv.x, hv.owner, by show (-1 : Int) ≤ -1 ∧ (-1 : Int) < 8; omega, by show 0 ≤ s.op + 1 ∧ s.op + 1 + rest.length < 4611686018427387904; omega, fun v hv' => hv.line v (by rw [hs]; exact List.mem_cons_of_mem _ hv')⟩
      have hb : RC 91 [] { reset s with hn := w.1, hk := w.2, line := rest, op := s.op + 1 } _ _ := beginR_ctr (nx := nextM n) (hvu s.pa) ⟨hw.1, hw.2.1⟩ ⟨hw.2.2.1, hw.2.2.2⟩ (fun pa => by
        have := (next_ctr n (reset { reset s with hn := w.1, hk := w.2, line := rest, op := s.op + 1, pa := pa }) (by show rest.length ≤ n; omega) (by omega) (reset_inv (hvu pa)) rfl).2.len
        have h2 : (reset { reset s with hn := w.1, hk := w.2, line := rest, op := s.op + 1, pa := pa }).line.length = rest.length := rfl
        rw [h2] at this
        exact Nat.lt_of_le_of_lt this (by omega)) (fun pa => ih _ (by show rest.length ≤ n; omega) (by omega) (hvu pa))
      have e : { s with line := w :: rest } = s := by cases s; simp only at hs; subst hs; rfl
      cases rest with
      | nil =>
        have h := doneR_one (s := s) (w := w) (by omega) hb
        rw [e] at h; exact h
      | cons y r =>
        have h := doneR_cons (s := s) (w := w) (y := y) (r := r) (by omega) (by simp only [List.length_cons] at hl ⊢; omega) hb
        rw [e] at h; exact h
end Go.Proofs.Ytjpgnjaobfbojaa

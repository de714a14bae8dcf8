import Derived.Test.YtjpgnjaobfbojaaLe
namespace Go.Proofs.Ytjpgnjaobfbojaa
open Go.Sx
def FU : Nat := 1000
def wishM (s : St) (n k : Int) : St × List Ord :=
  if s.wt = 0 then nextM FU { s with line := [(n, k)] } else if s.hn = n ∧ s.hk = k then (s, []) else if (n, k) ∈ s.line then (s, []) else ({ s with line := s.line ++ [(n, k)] }, [])
def wantM (s : St) (n m : Int) : St × List Ord := if (0 ≤ n ∧ n < 8) ∧ (m = 1 ∨ m = 2) then wishM s n m else (s, [])
def cleanM (s : St) (n : Int) : St × List Ord := if 0 ≤ n ∧ n < 8 then wishM s n 3 else (s, [])
def leftM (s : St) (n : Int) : St × List Ord := if allOff (upd s.go n.toNat false) = true then beginE (nextM FU) (leftS s n) else (leftS s n, [])
def goneMM (s : St) (n op : Int) : St × List Ord := if (0 ≤ n ∧ n < 8) ∧ s.wt = 1 ∧ op = s.op ∧ s.go n.toNat = true then leftM s n else (s, [])
def gotM (s : St) (n op : Int) : St × List Ord := if s.wt = 2 ∧ op = s.op ∧ n = s.hn then nextM FU (reset (gotS s n op)) else (s, [])
def relM (s : St) (n op : Int) : St × List Ord :=
  if 0 ≤ n ∧ n < 8 then
    (if s.wt = 1 ∧ s.go n.toNat = true then leftM (relS s n) n
     else if s.wt = 2 ∧ s.su = n ∧ op < s.op then (if s.hk = 1 then beginS (nextM FU) { relS s n with op := s.op + 1 } else beginE (nextM FU) { relS s n with op := s.op + 1 })
     else if s.wt = 3 ∧ s.owner = n then needM (nextM FU) (relS s n) else (relS s n, []))
  else (s, [])
def wroteM (s : St) (n op psn : Int) : St × List Ord :=
  if (0 ≤ n ∧ n < 8) ∧ 0 ≤ psn ∧ psn ≤ 2147483647 then
    (if s.owner = n ∧ s.ops n.toNat = op ∧ s.wt = 3 then ((nextM FU (reset (wroteS s n))).1, discs psn (listTo s.pa 8) ++ (nextM FU (reset (wroteS s n))).2) else (wroteT s n op, discs psn (listTo s.pa 8)))
  else (s, [])
structure StepR (s : St) (r : St × List Ord) : Prop where
  post : Post r.1
  tot : r.1.op + r.1.line.length ≤ s.op + s.line.length + 1
  op : s.op ≤ r.1.op
  len : r.2.length ≤ s.line.length + 20
theorem StepR.keep {s : St} (hp : Post s) : StepR s (s, []) := ⟨hp, by show s.op + s.line.length ≤ _; omega, Int.le_refl _, Nat.zero_le _⟩
theorem StepR.of_res {s u : St} {b : Nat} {r : St × List Ord} (h : Res b u r) (hb : b ≤ 20) (hl : u.line.length ≤ s.line.length) (ht : u.op + u.line.length ≤ s.op + s.line.length + 1) (ho : s.op ≤ u.op) : StepR s r := by
  have h1 := h.tot
  have h2 := h.op
  have h3 := h.len
  exact ⟨h.post, by omega, by omega, by omega⟩
theorem next_of {s : St} (hv : Inv s) (hl : s.line.length ≤ 1000) : Next (nextM FU) s := fun pa =>
  next_ctr FU (reset { s with pa := pa }) hl (by unfold FU; omega) (reset_inv (s := { s with pa := pa }) ⟨hv.x, hv.owner, hv.su, hv.op, hv.line⟩) rfl
theorem needM_ctr {nx : St → St × List Ord} {u : St} (hi : Hand u) (hl : u.line.length < 10000) (hn : Next nx u) : MC 69 [] u (needM nx u).1 (needM nx u).2 ∧ Res 10 u (needM nx u) := by
  have ⟨h1, h2⟩ := hn (upd u.pa u.hn.toNat false)
  have h3 : (nx (reset { u with pa := upd u.pa u.hn.toNat false })).2.length ≤ u.line.length + 9 := h2.len
  have h4 : (nx (reset { u with pa := upd u.pa u.hn.toNat false })).2.length < 1000000 := by omega
  exact ⟨needless_ctr hi h4 (done_ctr h1), ⟨h2.post, h2.tot, h2.op, Nat.succ_le_succ h3⟩⟩
variable {s : St}
theorem wish_ctr {n k : Int} (hp : Post s) (hb : s.op + s.line.length ≤ 900) (hn : 0 ≤ n ∧ n < 8) (hk : 1 ≤ k ∧ k ≤ 3) : MC 65 [.agg #[.int .i64 n, .int .i64 k]] s (wishM s n k).1 (wishM s n k).2 ∧ StepR s (wishM s n k) := by
  have hop := hp.inv.op
  unfold wishM
  by_cases hw : s.wt = 0
  · rw [if_pos hw]
    have ⟨hl, hr⟩ := hp.idle hw
    have hv : Inv { s with line := [(n, k)] } := ⟨hp.inv.x, hp.inv.owner, hp.inv.su, by show 0 ≤ s.op ∧ s.op + ((1 : Nat) : Int) < 4611686018427387904; omega, fun w hw => by
      obtain rfl := List.mem_singleton.1 hw
      exact ⟨hn.1, hn.2, hk.1, hk.2⟩⟩
    have hr2 : reset { s with line := [(n, k)] } = { s with line := [(n, k)] } := by
      have : reset { s with line := [(n, k)] } = { reset s with line := [(n, k)] } := rfl
      rw [this, hr]
    have ⟨h1, h2⟩ := next_ctr FU { s with line := [(n, k)] } (by show 1 ≤ 1000; omega) (by unfold FU; omega) hv hr2
    have e1 : { s with wt := 0, line := [(n, k)] } = { s with line := [(n, k)] } := by
      cases s; simp only at hw; subst hw; rfl
    have e2 : { s with wt := 0, line := [] } = s := by
      cases s; simp only at hw hl; subst hw; subst hl; rfl
    refine ⟨?_, ?_⟩
    · have := wish_begin (s := s) (n := n) (k := k) (by simp) (by simp) (by rw [e1]; exact h1)
      rw [e2] at this; exact this
    · have h3 := h2.tot
      have h4 := h2.op
      have h5 := h2.len
      exact ⟨h2.post, by rw [h3, hl]; show s.op + ((1 : Nat) : Int) ≤ s.op + ((0 : Nat) : Int) + 1; omega, h4, Nat.le_trans h5 (by show 1 + 9 ≤ _; omega)⟩
  · rw [if_neg hw]
    by_cases hh : s.hn = n ∧ s.hk = k
    · rw [if_pos hh]
      exact ⟨wish_hand hw hh, StepR.keep hp⟩
    · rw [if_neg hh]
      by_cases hm : (n, k) ∈ s.line
      · rw [if_pos hm]
        exact ⟨wish_line hw hh (by omega) hm, StepR.keep hp⟩
      · rw [if_neg hm]
        have hlen : (s.line ++ [(n, k)]).length = s.line.length + 1 := by simp
        refine ⟨?_, ⟨⟨⟨hp.inv.x, hp.inv.owner, hp.inv.su, ?_, ?_⟩, fun h => absurd h hw, hp.busy⟩, ?_, Int.le_refl _, Nat.zero_le _⟩⟩
        · cases hl : s.line with
          | nil =>
            have e : { s with line := [] } = s := by cases s; simp only at hl; subst hl; rfl
            have := wish_end_nil hw hh (by simp) (by simp)
            rw [e] at this; exact this
          | cons y r =>
            rw [hl] at hm hop hb
            have e : { s with line := y :: r } = s := by cases s; simp only at hl; subst hl; rfl
            have := wish_end_cons (y := y) (r := r) hw hh (by omega) hm
            rw [e] at this; exact this
        · show 0 ≤ s.op ∧ s.op + ((s.line ++ [(n, k)]).length : Int) < 4611686018427387904
          rw [hlen]; omega
        · intro w hw2
          rcases List.mem_append.1 hw2 with h | h
          · exact hp.inv.line w h
          · obtain rfl := List.mem_singleton.1 h
            exact ⟨hn.1, hn.2, hk.1, hk.2⟩
        · show s.op + ((s.line ++ [(n, k)]).length : Int) ≤ _
          rw [hlen]; omega
theorem want_ctr {n m : Int} (hp : Post s) (hb : s.op + s.line.length ≤ 900) : MC 24 [.int .i64 n, .int .i64 m] s (wantM s n m).1 (wantM s n m).2 ∧ StepR s (wantM s n m) := by
  unfold wantM
  by_cases h : (0 ≤ n ∧ n < 8) ∧ (m = 1 ∨ m = 2)
  · rw [if_pos h]
    obtain ⟨h1, h2⟩ := h
    have ⟨h3, h4⟩ := wish_ctr (n := n) (k := m) hp hb h1 (by omega)
    refine ⟨?_, h4⟩
    rcases h2 with h2 | h2
    · exact want_1 h1 h2 (by rw [h2] at h3 ⊢; exact h3)
    · exact want_2 h1 h2 (by rw [h2] at h3 ⊢; exact h3)
  · rw [if_neg h]
    exact ⟨want_out h, StepR.keep hp⟩
theorem clean_ctr {n : Int} (hp : Post s) (hb : s.op + s.line.length ≤ 900) : MC 25 [.int .i64 n] s (cleanM s n).1 (cleanM s n).2 ∧ StepR s (cleanM s n) := by
  unfold cleanM
  by_cases h : 0 ≤ n ∧ n < 8
  · rw [if_pos h]
    have ⟨h3, h4⟩ := wish_ctr (n := n) (k := 3) hp hb h (by omega)
    exact ⟨clean_in h h3, h4⟩
  · rw [if_neg h]
    exact ⟨clean_out h, StepR.keep hp⟩
theorem left_ctr {n : Int} (hv : Inv s) (hh : Hand s) (hk : 1 ≤ s.hk ∧ s.hk ≤ 3) (hw : 1 ≤ s.wt ∧ s.wt ≤ 3) (hb : s.op + s.line.length ≤ 900) (hn : 0 ≤ n ∧ n < 8) : MC 66 [.int .i64 n] s (leftM s n).1 (leftM s n).2 ∧ StepR s (leftM s n) := by
  have hop := hv.op
  have hv' : Inv (leftS s n) := ⟨hv.x, hv.owner, hv.su, hv.op, hv.line⟩
  unfold leftM
  by_cases hg : allOff (upd s.go n.toNat false) = true
  · rw [if_pos hg]
    have ⟨h1, h2⟩ := beginE_ctr (nx := nextM FU) (s := leftS s n) hv' hh hk (next_of hv' (by show s.line.length ≤ 1000; omega))
    exact ⟨left_all hn hg h1, StepR.of_res h2 (by omega) (Nat.le_refl _) (by show s.op + s.line.length ≤ _; omega) (Int.le_refl _)⟩
  · rw [if_neg hg]
    exact ⟨left_more hn (Bool.eq_false_iff.2 hg), ⟨⟨hv', fun h => by have : s.wt = 0 := h; omega, fun _ => ⟨hh, hk.1, hk.2, hw.1, hw.2⟩⟩, by show s.op + s.line.length ≤ _; omega, Int.le_refl _, Nat.zero_le _⟩⟩
theorem gone_ctr {n op : Int} (hp : Post s) (hb : s.op + s.line.length ≤ 900) : MC 30 [.int .i64 n, .int .i64 op] s (goneMM s n op).1 (goneMM s n op).2 ∧ StepR s (goneMM s n op) := by
  unfold goneMM
  by_cases h : (0 ≤ n ∧ n < 8) ∧ s.wt = 1 ∧ op = s.op ∧ s.go n.toNat = true
  · rw [if_pos h]
    have ⟨b1, b2, b3, b4, b5⟩ := hp.busy (by rw [h.2.1]; omega)
    have ⟨h3, h4⟩ := left_ctr (n := n) hp.inv b1 ⟨b2, b3⟩ ⟨b4, b5⟩ hb h.1
    exact ⟨gone_in h h3, h4⟩
  · rw [if_neg h]
    exact ⟨gone_out h, StepR.keep hp⟩
theorem gotS_inv {n op : Int} (hv : Inv s) (hn : 0 ≤ n ∧ n < 8) : Inv (gotS s n op) ∧ (gotS s n op).op = s.op ∧ (gotS s n op).line = s.line := by
  have hx : (-1 : Int) ≤ -1 ∧ (-1 : Int) < 8 := by omega
  have hn' : -1 ≤ n ∧ n < 8 := by omega
  unfold gotS
  repeat' split
  · exact ⟨⟨hv.x, hv.owner, hv.su, hv.op, hv.line⟩, rfl, rfl⟩
  · exact ⟨⟨hx, hv.owner, hv.su, hv.op, hv.line⟩, rfl, rfl⟩
  · exact ⟨⟨hx, hv.owner, hv.su, hv.op, hv.line⟩, rfl, rfl⟩
  · exact ⟨⟨hv.x, hv.owner, hv.su, hv.op, hv.line⟩, rfl, rfl⟩
  · exact ⟨⟨hn', hn', hv.su, hv.op, hv.line⟩, rfl, rfl⟩
  · exact ⟨⟨hn', hn', hv.su, hv.op, hv.line⟩, rfl, rfl⟩
  · exact ⟨⟨hn', hn', hv.su, hv.op, hv.line⟩, rfl, rfl⟩
theorem got_ctr {n op : Int} (hp : Post s) (hb : s.op + s.line.length ≤ 900) : MC 31 [.int .i64 n, .int .i64 op] s (gotM s n op).1 (gotM s n op).2 ∧ StepR s (gotM s n op) := by
  have hop := hp.inv.op
  unfold gotM
  by_cases h : s.wt = 2 ∧ op = s.op ∧ n = s.hn
  · rw [if_pos h]
    have ⟨b1, b2, b3, b4, b5⟩ := hp.busy (by rw [h.1]; omega)
    have ⟨hv, e1, e2⟩ := gotS_inv (n := n) (op := op) hp.inv (by have := b1.1; have := b1.2; omega)
    have ⟨h1, h2⟩ := next_of hv (by rw [e2]; omega) (gotS s n op).pa
    refine ⟨got_in ⟨b1.1, b1.2⟩ hp.inv.su h (done_ctr h1), ?_⟩
    have e3 : (reset (gotS s n op)).line = s.line := e2
    have e4 : (reset (gotS s n op)).op = s.op := e1
    exact StepR.of_res h2 (by omega) (by show (reset (gotS s n op)).line.length ≤ _; rw [e3]; exact Nat.le_refl _) (by show (reset (gotS s n op)).op + (reset (gotS s n op)).line.length ≤ _; rw [e3, e4]; omega) (by show _ ≤ (reset (gotS s n op)).op; rw [e4]; exact Int.le_refl _)
  · rw [if_neg h]
    exact ⟨got_out (fun h => (hp.busy (by rw [h]; omega)).1) hp.inv.su h, StepR.keep hp⟩
theorem relS_inv {n : Int} (hv : Inv s) : Inv (relS s n) := by
  have hx := hv.x
  have ho := hv.owner
  refine ⟨?_, ?_, hv.su, hv.op, hv.line⟩
  · show -1 ≤ (if s.x = n then (-1 : Int) else s.x) ∧ (if s.x = n then (-1 : Int) else s.x) < 8
    split <;> omega
  · show -1 ≤ (if s.owner = n then (-1 : Int) else s.owner) ∧ (if s.owner = n then (-1 : Int) else s.owner) < 8
    split <;> omega
theorem rel_ctr {n op : Int} (hp : Post s) (hb : s.op + s.line.length ≤ 900) : MC 26 [.int .i64 n, .int .i64 op] s (relM s n op).1 (relM s n op).2 ∧ StepR s (relM s n op) := by
  have hop := hp.inv.op
  have hv := relS_inv (n := n) hp.inv
  unfold relM
  by_cases hn : 0 ≤ n ∧ n < 8
  · rw [if_pos hn]
    by_cases h1 : s.wt = 1 ∧ s.go n.toNat = true
    · rw [if_pos h1]
      have ⟨b1, b2, b3, b4, b5⟩ := hp.busy (by rw [h1.1]; omega)
      have ⟨h3, h4⟩ := left_ctr (s := relS s n) (n := n) hv b1 ⟨b2, b3⟩ ⟨b4, b5⟩ hb hn
      exact ⟨rel_left (by omega) ⟨hn, h1⟩ h3, ⟨h4.post, h4.tot, h4.op, h4.len⟩⟩
    · rw [if_neg h1]
      by_cases h2 : s.wt = 2 ∧ s.su = n ∧ op < s.op
      · rw [if_pos h2]
        have ⟨b1, b2, b3, b4, b5⟩ := hp.busy (by rw [h2.1]; omega)
        have hv' : Inv { relS s n with op := s.op + 1 } := ⟨hv.x, hv.owner, hv.su, by show 0 ≤ s.op + 1 ∧ s.op + 1 + s.line.length < 4611686018427387904; omega, hv.line⟩
        have hnx := next_of hv' (by show s.line.length ≤ 1000; omega)
        by_cases hk : s.hk = 1
        · rw [if_pos hk]
          have ⟨h3, h4⟩ := beginS_ctr hv' b1 ⟨b2, b3⟩ hnx
          exact ⟨rel_sh (by omega) ⟨hn, h2.1, h2.2.1, h2.2.2, hk⟩ h3, StepR.of_res h4 (by omega) (Nat.le_refl _) (by show s.op + 1 + s.line.length ≤ _; omega) (by show s.op ≤ s.op + 1; omega)⟩
        · rw [if_neg hk]
          have ⟨h3, h4⟩ := beginE_ctr hv' b1 ⟨b2, b3⟩ hnx
          exact ⟨rel_ex (by omega) ⟨hn, h2.1, h2.2.1, h2.2.2, hk⟩ h3, StepR.of_res h4 (by omega) (Nat.le_refl _) (by show s.op + 1 + s.line.length ≤ _; omega) (by show s.op ≤ s.op + 1; omega)⟩
      · rw [if_neg h2]
        by_cases h3 : s.wt = 3 ∧ s.owner = n
        · rw [if_pos h3]
          have ⟨b1, b2, b3, b4, b5⟩ := hp.busy (by rw [h3.1]; omega)
          have ⟨h4, h5⟩ := needM_ctr (u := relS s n) b1 (by show s.line.length < 10000; omega) (next_of hv (by show s.line.length ≤ 1000; omega))
          exact ⟨rel_need (by omega) ⟨hn, h3⟩ h4, StepR.of_res h5 (by omega) (Nat.le_refl _) (by show s.op + s.line.length ≤ _; omega) (Int.le_refl _)⟩
        · rw [if_neg h3]
          refine ⟨rel_nil ⟨hn, h1, h2, h3⟩, ⟨⟨hv, fun h => ?_, hp.busy⟩, by show s.op + s.line.length ≤ _; omega, Int.le_refl _, Nat.zero_le _⟩⟩
          have ⟨h5, h6⟩ := hp.idle h
          refine ⟨h5, ?_⟩
          have : reset (relS s n) = relS (reset s) n := rfl
          rw [this, h6]
  · rw [if_neg hn]
    exact ⟨rel_out hn, StepR.keep hp⟩
theorem discs_len (psn : Int) (l : List Int) : (discs psn l).length = l.length := by unfold discs; rw [List.length_map]
theorem wroteS_inv {n : Int} (hv : Inv s) : Inv (wroteS s n) := by
  have ho := hv.owner
  refine ⟨hv.x, ?_, hv.su, hv.op, hv.line⟩
  show -1 ≤ (if s.x = n then s.owner else (-1 : Int)) ∧ (if s.x = n then s.owner else (-1 : Int)) < 8
  split <;> omega
theorem wroteS_post {n : Int} (hp : Post s) : Post (wroteS s n) := ⟨wroteS_inv hp.inv, fun h => by
  have ⟨h1, h2⟩ := hp.idle h
  refine ⟨h1, ?_⟩
  have : reset (wroteS s n) = wroteS (reset s) n := rfl
  rw [this, h2], hp.busy⟩
theorem wroteT_post {n op : Int} (hp : Post s) : Post (wroteT s n op) ∧ (wroteT s n op).op = s.op ∧ (wroteT s n op).line = s.line := by
  unfold wroteT
  repeat' split
  · exact ⟨wroteS_post hp, rfl, rfl⟩
  · exact ⟨hp, rfl, rfl⟩
  · exact ⟨hp, rfl, rfl⟩
theorem wrote_ctr {n op psn : Int} (hp : Post s) (hb : s.op + s.line.length ≤ 900) : MC 32 [.int .i64 n, .int .i64 op, .int .i64 psn] s (wroteM s n op psn).1 (wroteM s n op psn).2 ∧ StepR s (wroteM s n op psn) := by
  have hop := hp.inv.op
  have hlen := listTo_len s.pa 8
  unfold wroteM
  by_cases hn : (0 ≤ n ∧ n < 8) ∧ 0 ≤ psn ∧ psn ≤ 2147483647
  · rw [if_pos hn]
    by_cases h1 : s.owner = n ∧ s.ops n.toNat = op ∧ s.wt = 3
    · rw [if_pos h1]
      have hv := wroteS_inv (n := n) hp.inv
      have ⟨h4, h5⟩ := next_of hv (by show s.line.length ≤ 1000; omega) (wroteS s n).pa
      have h6 : (nextM FU (reset (wroteS s n))).2.length ≤ s.line.length + 9 := h5.len
      have h7 : (nextM FU (reset (wroteS s n))).2.length < 1000000 := by omega
      have hm : MC 73 [] (wroteS s n) (nextM FU (reset (wroteS s n))).1 (nextM FU (reset (wroteS s n))).2 := done_ctr h4
      refine ⟨?_, ⟨h5.post, ?_, h5.op, ?_⟩⟩
      · show MC 32 _ s (nextM FU (reset (wroteS s n))).1 (discs psn (listTo s.pa 8) ++ (nextM FU (reset (wroteS s n))).2)
        rcases he : listTo s.pa 8 with _ | ⟨n0, _ | ⟨n1, _ | ⟨n2, _ | ⟨n3, _ | ⟨n4, _ | ⟨n5, _ | ⟨n6, _ | ⟨n7, _ | ⟨n8, l⟩⟩⟩⟩⟩⟩⟩⟩⟩
        · exact wrote_w0 h7 he ⟨hn.1, hn.2, h1⟩ hm
        · exact wrote_w1 h7 he ⟨hn.1, hn.2, h1⟩ hm
        · exact wrote_w2 h7 he ⟨hn.1, hn.2, h1⟩ hm
        · exact wrote_w3 h7 he ⟨hn.1, hn.2, h1⟩ hm
        · exact wrote_w4 h7 he ⟨hn.1, hn.2, h1⟩ hm
        · exact wrote_w5 h7 he ⟨hn.1, hn.2, h1⟩ hm
        · exact wrote_w6 h7 he ⟨hn.1, hn.2, h1⟩ hm
        · exact wrote_w7 h7 he ⟨hn.1, hn.2, h1⟩ hm
        · exact wrote_w8 h7 he ⟨hn.1, hn.2, h1⟩ hm
        · rw [he] at hlen
          simp only [List.length_cons] at hlen
          omega
      · have h8 : (nextM FU (reset (wroteS s n))).1.op + (nextM FU (reset (wroteS s n))).1.line.length = s.op + s.line.length := h5.tot
        show (nextM FU (reset (wroteS s n))).1.op + (nextM FU (reset (wroteS s n))).1.line.length ≤ _
        rw [h8]; omega
      · show (discs psn (listTo s.pa 8) ++ (nextM FU (reset (wroteS s n))).2).length ≤ _
        rw [List.length_append, discs_len]; omega
    · rw [if_neg h1]
      have ⟨hq, e1, e2⟩ := wroteT_post (n := n) (op := op) hp
      refine ⟨?_, ⟨hq, ?_, ?_, ?_⟩⟩
      · show MC 32 _ s (wroteT s n op) (discs psn (listTo s.pa 8))
        rcases he : listTo s.pa 8 with _ | ⟨n0, _ | ⟨n1, _ | ⟨n2, _ | ⟨n3, _ | ⟨n4, _ | ⟨n5, _ | ⟨n6, _ | ⟨n7, _ | ⟨n8, l⟩⟩⟩⟩⟩⟩⟩⟩⟩
        · exact wrote_t0 he ⟨hn.1, hn.2, h1⟩
        · exact wrote_t1 he ⟨hn.1, hn.2, h1⟩
        · exact wrote_t2 he ⟨hn.1, hn.2, h1⟩
        · exact wrote_t3 he ⟨hn.1, hn.2, h1⟩
        · exact wrote_t4 he ⟨hn.1, hn.2, h1⟩
        · exact wrote_t5 he ⟨hn.1, hn.2, h1⟩
        · exact wrote_t6 he ⟨hn.1, hn.2, h1⟩
        · exact wrote_t7 he ⟨hn.1, hn.2, h1⟩
        · exact wrote_t8 he ⟨hn.1, hn.2, h1⟩
        · rw [he] at hlen
          simp only [List.length_cons] at hlen
          omega
      · show (wroteT s n op).op + (wroteT s n op).line.length ≤ _
        rw [e1, e2]; omega
      · show _ ≤ (wroteT s n op).op
        rw [e1]; exact Int.le_refl _
      · show (discs psn (listTo s.pa 8)).length ≤ _
        rw [discs_len]; omega
  · rw [if_neg hn]
    exact ⟨wrote_out hn, StepR.keep hp⟩
end Go.Proofs.Ytjpgnjaobfbojaa
namespace Go.Proofs.Ytjpgnjaobfbojaa
open Go.Sx
section
variable (s : St) (lv : Value) (T : TypeId) {q : Nat}
end
def lowR (f : Nat → Bool) : Nat → Int
  | 0 => -1
  | k + 1 => if f (7 - k) = true then ((7 - k : Nat) : Int) else lowR f k
def lvN : Value := .slice none 0 0
end Go.Proofs.Ytjpgnjaobfbojaa
namespace Go.Proofs.Ytjpgnjaobfbojaa
open Go.Sx
theorem lowest_lowR (f : Nat → Bool) : lowest f = lowR f 8 := by
  unfold lowest
  simp only [listTo, lowR, Nat.reduceSub]
  cases h0 : f 0 <;> cases h1 : f 1 <;> cases h2 : f 2 <;> cases h3 : f 3 <;> cases h4 : f 4 <;> cases h5 : f 5 <;> cases h6 : f 6 <;> cases h7 : f 7 <;> rfl
end Go.Proofs.Ytjpgnjaobfbojaa
namespace Go.Proofs.Ytjpgnjaobfbojaa
open Go.Sx
structure Nd where
  l : St
  mode : Nat → Int
  op : Nat → Int
def cntI (p : Nat → Bool) : Nat → Nat
  | 0 => 0
  | i + 1 => cntI p i + (if p i = true then 1 else 0)
def rightM (m : Nat → Int) : Bool := decide (cntI (fun i => m i == 2) 8 ≤ 1 ∧ (cntI (fun i => m i == 2) 8 = 0 ∨ cntI (fun i => m i != 0) 8 = 1))
def doesM (w : Nd) (o : Ord) : Nd × List Ord × Bool :=
  if (0 ≤ o.to ∧ o.to < 8) ∧ 0 ≤ o.node ∧ o.node < 8 then
    (if o.kind = 1 then (⟨(gotM w.l o.to o.op).1, upd w.mode o.to.toNat o.mode, upd w.op o.to.toNat o.op⟩, (gotM w.l o.to o.op).2, rightM (upd w.mode o.to.toNat o.mode))
     else if o.kind = 2 then (⟨(gotM w.l o.node o.op).1, upd (upd w.mode o.to.toNat 1) o.node.toNat 1, upd (upd w.op o.to.toNat o.op) o.node.toNat o.op⟩, (gotM w.l o.node o.op).2, rightM (upd (upd w.mode o.to.toNat 1) o.node.toNat 1))
     else if o.kind = 3 then (⟨(gotM w.l o.node o.op).1, upd (upd w.mode o.to.toNat 0) o.node.toNat 2, upd w.op o.node.toNat o.op⟩, (gotM w.l o.node o.op).2, rightM (upd (upd w.mode o.to.toNat 0) o.node.toNat 2))
     else if o.kind = 4 then (⟨(goneMM w.l o.to o.op).1, upd w.mode o.to.toNat 0, w.op⟩, (goneMM w.l o.to o.op).2, rightM (upd w.mode o.to.toNat 0))
     else if o.kind = 5 then (⟨(wroteM w.l o.to (w.op o.to.toNat) 1).1, w.mode, w.op⟩, (wroteM w.l o.to (w.op o.to.toNat) 1).2, rightM w.mode)
     else (w, [], true))
  else (w, [], false)
def begM (w : Nd) (k : Int) (n : Int) : Nd × List Ord :=
  if k = 1 then (if w.mode n.toNat = 0 then (⟨(wantM w.l n 1).1, w.mode, w.op⟩, (wantM w.l n 1).2) else (w, []))
  else if k = 2 then (if w.mode n.toNat = 2 then (w, []) else (⟨(wantM w.l n 2).1, w.mode, w.op⟩, (wantM w.l n 2).2))
  else if k = 3 then (⟨(cleanM w.l n).1, w.mode, w.op⟩, (cleanM w.l n).2)
  else if k = 4 then (if w.mode n.toNat = 0 then (w, []) else (⟨(relM w.l n (w.op n.toNat)).1, upd w.mode n.toNat 0, w.op⟩, (relM w.l n (w.op n.toNat)).2))
  else (w, [])
def held (s : St) (i : Nat) : Int := if s.x = (i : Int) then 2 else if s.sh i = true then 1 else 0
structure JN (w : Nd) : Prop where
  post : Post w.l
  wt : w.l.wt = 0
  mode : ∀ i, i < 8 → w.mode i = held w.l i
  excl : 0 ≤ w.l.x → w.l.owner = w.l.x ∧ ∀ i, i < 8 → w.l.sh i = false
  op : 0 ≤ w.l.owner → w.op w.l.owner.toNat = w.l.ops w.l.owner.toNat
theorem cntI_zero {p : Nat → Bool} : ∀ {k : Nat}, (∀ i, i < k → p i = false) → cntI p k = 0
  | 0, _ => rfl
  | k + 1, h => by
    unfold cntI
    rw [cntI_zero fun i hi => h i (by omega), h k (by omega)]; rfl
theorem cntI_one {p : Nat → Bool} {n : Nat} : ∀ {k : Nat}, n < k → p n = true → (∀ i, i < k → i ≠ n → p i = false) → cntI p k = 1
  | k + 1, hn, hp, h => by
    unfold cntI
    by_cases hk : k = n
    · subst hk
      rw [cntI_zero fun i hi => h i (by omega) (by omega), if_pos hp]
    · rw [cntI_one (by omega) hp fun i hi => h i (by omega), h k (by omega) hk]; rfl
theorem right_none {m : Nat → Int} (h : ∀ i, i < 8 → m i ≠ 2) : rightM m = true := by
  unfold rightM
  have : cntI (fun i => m i == 2) 8 = 0 := cntI_zero fun i hi => by simpa using h i hi
  rw [this]; simp
theorem right_one {m : Nat → Int} {n : Nat} (hn : n < 8) (h2 : m n = 2) (h : ∀ i, i < 8 → i ≠ n → m i = 0) : rightM m = true := by
  unfold rightM
  have h1 : cntI (fun i => m i == 2) 8 = 1 := cntI_one hn (by simp [h2]) fun i hi hne => by simp [h i hi hne]
  have h3 : cntI (fun i => m i != 0) 8 = 1 := cntI_one hn (by simp [h2]) fun i hi hne => by simp [h i hi hne]
  rw [h1, h3]; simp
theorem right_held {s : St} {m : Nat → Int} (h : ∀ i, i < 8 → m i = held s i) (hx : 0 ≤ s.x → ∀ i, i < 8 → s.sh i = false) (hb : s.x < 8) : rightM m = true := by
  by_cases h0 : 0 ≤ s.x
  · refine right_one (n := s.x.toNat) (by omega) ?_ fun i hi hne => ?_
    · rw [h _ (by omega)]
      unfold held
      rw [if_pos (by omega)]
    · rw [h i hi]
      unfold held
      rw [if_neg (by omega), hx h0 i hi]; rfl
  · refine right_none fun i hi => ?_
    rw [h i hi]
    unfold held
    rw [if_neg (by omega)]
    split <;> simp
theorem upd_eq {α : Type} (f : Nat → α) (n : Nat) (v : α) : upd f n v n = v := by simp [upd]
theorem upd_ne {α : Type} (f : Nat → α) {n k : Nat} (v : α) (h : k ≠ n) : upd f n v k = f k := by simp [upd, h]
theorem next_empty {s : St} (h : s.line = []) : ∀ f, nextM f s = (s, [])
  | 0 => rfl
  | f + 1 => by unfold nextM; rw [h]
theorem next_one (s : St) (n k : Int) : nextM FU { s with line := [(n, k)] } = beginM (nextM 999) { s with hn := n, hk := k, line := [], op := s.op + 1 } := rfl
theorem lowest_in {f : Nat → Bool} (h : 0 ≤ lowest f) : f (lowest f).toNat = true := by
  unfold lowest at h ⊢
  cases hl : listTo f 8 with
  | nil => rw [hl] at h; exact absurd h (by decide)
  | cons n l =>
    obtain ⟨k, _, h2, h3⟩ := (listTo_mem f 8 n).1 (by rw [hl]; exact List.mem_cons_self)
    show f n.toNat = true
    rw [h3]; simpa using h2
theorem lowR_drop {f : Nat → Bool} {i : Nat} : ∀ k, (i : Int) ≠ lowR f k → lowR (upd f i false) k = lowR f k
  | 0, _ => rfl
  | k + 1, h => by
    unfold lowR at h ⊢
    by_cases hf : f (7 - k) = true
    · rw [if_pos hf] at h ⊢
      have hne : 7 - k ≠ i := fun e => h (by rw [e])
      rw [upd_ne _ _ hne, if_pos hf]
    · rw [if_neg hf] at h ⊢
      have : ¬ upd f i false (7 - k) = true := by
        unfold upd
        split
        · simp
        · exact hf
      rw [if_neg this]
      exact lowR_drop k h
theorem lowest_drop {f : Nat → Bool} {i : Nat} (h : (i : Int) ≠ lowest f) : lowest (upd f i false) = lowest f := by
  rw [lowest_lowR] at h
  rw [lowest_lowR, lowest_lowR]
  exact lowR_drop 8 h
theorem listTo_none (f : Nat → Bool) : ∀ k, (∀ i, i < k → f i = false) → listTo f k = []
  | 0, _ => rfl
  | k + 1, h => by
    unfold listTo
    rw [if_neg (by rw [h k (by omega)]; simp), listTo_none f k fun i hi => h i (by omega)]
theorem list_drop {f : Nat → Bool} {n : Int} : ∀ {k : Nat} {l : List Int}, listTo f k = n :: l → listTo (upd f n.toNat false) k = l
  | k + 1, l, h => by
    unfold listTo at h ⊢
    by_cases hf : f k = true
    · rw [if_pos hf] at h
      cases hl : listTo f k with
      | nil =>
        rw [hl] at h
        simp only [List.nil_append, List.cons.injEq] at h
        obtain ⟨rfl, rfl⟩ := h
        rw [Int.toNat_natCast, if_neg (by simp [upd])]
        refine listTo_none _ k fun i hi => ?_
        rw [upd_ne _ _ (by omega)]
        cases hfi : f i with
        | false => rfl
        | true =>
          have := (listTo_mem f k (i : Int)).2 ⟨i, hi, hfi, rfl⟩
          rw [hl] at this; cases this
      | cons m t =>
        rw [hl] at h
        simp only [List.cons_append, List.cons.injEq] at h
        obtain ⟨rfl, rfl⟩ := h
        obtain ⟨j, hj, _, e⟩ := (listTo_mem f k m).1 (by rw [hl]; exact List.mem_cons_self)
        rw [if_pos (by rw [upd_ne _ _ (by omega)]; exact hf), list_drop hl]
    · rw [if_neg hf] at h
      obtain ⟨j, hj, _, e⟩ := (listTo_mem f k n).1 (by rw [h]; exact List.mem_cons_self)
      rw [if_neg (by rw [upd_ne _ _ (by omega)]; exact hf), list_drop h]
theorem allOff_iff {f : Nat → Bool} : allOff f = true ↔ listTo f 8 = [] := by
  simp only [allOff, listTo]
  cases f 0 <;> cases f 1 <;> cases f 2 <;> cases f 3 <;> cases f 4 <;> cases f 5 <;> cases f 6 <;> cases f 7 <;> simp
end Go.Proofs.Ytjpgnjaobfbojaa
namespace Go.Proofs.Ytjpgnjaobfbojaa
open Go.Sx
structure Fine (w : Nd) : Prop where
  post : Post w.l
  room : w.l.op + w.l.line.length ≤ 900
inductive Run : Nat → Nd → List Ord → Nd → Prop
  | done {f : Nat} {w : Nd} (h : Fine w) : Run f w [] w
  | step {f : Nat} {w w' : Nd} {o : Ord} {t : List Ord} (h : Fine w) (hk : (doesM w o).2.2 = true) (hr : Run f (doesM w o).1 (t ++ (doesM w o).2.1) w') : Run (f + 1) w (o :: t) w'
theorem Run.more {f : Nat} {w w' : Nd} {t : List Ord} (h : Run f w t w') : Run (f + 1) w t w' := by
  induction h with
  | done h => exact .done h
  | step h hk _ ih => exact .step h hk ih
theorem Run.le {f g : Nat} {w w' : Nd} {t : List Ord} (h : Run f w t w') (hg : f ≤ g) : Run g w t w' := by
  induction hg with
  | refl => exact h
  | step _ ih => exact ih.more
theorem Run.step2 {f : Nat} {w w1 w' : Nd} {o : Ord} {t m : List Ord} (h : Fine w) (e : doesM w o = (w1, m, true)) (hr : Run f w1 (t ++ m) w') : Run (f + 1) w (o :: t) w' :=
  .step h (by rw [e]) (by rw [e]; exact hr)
theorem JN.idle {w : Nd} (J : JN w) : w.l.line = [] ∧ reset w.l = w.l := J.post.idle J.wt
theorem JN.fine {w : Nd} (J : JN w) (ho : w.l.op ≤ 900) : Fine w := ⟨J.post, by rw [J.idle.1]; simpa using ho⟩
theorem held_zero {s : St} {i : Nat} (h : held s i = 0) : s.x ≠ (i : Int) ∧ s.sh i = false := by
  unfold held at h
  split at h
  · cases h
  · rename_i h1
    refine ⟨h1, ?_⟩
    cases hs : s.sh i with
    | false => rfl
    | true => rw [hs] at h; simp at h
theorem supply_x {s : St} (h : supplyP s = -1) : s.x = -1 := by
  unfold supplyP at h
  split at h
  · assumption
  · omega
theorem supply_in {s : St} (h : supplyP s ≠ -1) : s.x = supplyP s ∨ s.sh (supplyP s).toNat = true := by
  have third : thirdP s ≠ -1 → s.sh (thirdP s).toNat = true := by
    intro ht
    have low : lowest (upd s.sh s.hn.toNat false) ≠ -1 → s.sh (lowest (upd s.sh s.hn.toNat false)).toNat = true := fun hl => by
      have hb := lowest_bound (upd s.sh s.hn.toNat false)
      have := lowest_in (f := upd s.sh s.hn.toNat false) (by omega)
      unfold upd at this ⊢
      split at this
      · cases this
      · exact this
    unfold thirdP at ht ⊢
    split
    · rename_i h1
      rw [if_pos h1] at ht
      split
      · rename_i h2; rw [if_pos h2] at ht; exact absurd rfl ht
      · rename_i h2; rw [if_neg h2] at ht; exact low ht
    · rename_i h1
      rw [if_neg h1] at ht
      exact low ht
  by_cases h1 : s.x = -1
  · by_cases h2 : s.owner = -1
    · have e : supplyP s = thirdP s := by unfold supplyP; rw [if_pos h1, if_pos h2]
      rw [e] at h ⊢
      exact .inr (third h)
    · by_cases h3 : s.owner = s.hn
      · have e : supplyP s = thirdP s := by unfold supplyP; rw [if_pos h1, if_neg h2, if_pos h3]
        rw [e] at h ⊢
        exact .inr (third h)
      · by_cases h4 : s.sh s.owner.toNat = true
        · have e : supplyP s = s.owner := by unfold supplyP; rw [if_pos h1, if_neg h2, if_neg h3, if_pos h4]
          rw [e]
          exact .inr h4
        · have e : supplyP s = thirdP s := by unfold supplyP; rw [if_pos h1, if_neg h2, if_neg h3, if_neg h4]
          rw [e] at h ⊢
          exact .inr (third h)
  · have e : supplyP s = s.x := by unfold supplyP; rw [if_neg h1]
    exact .inl e.symm
theorem nat_of {n : Int} (h : 0 ≤ n ∧ n < 8) : ∃ k : Nat, k < 8 ∧ n = (k : Int) := ⟨n.toNat, by omega, by omega⟩
theorem wish_shared {s : St} {n : Nat} (hwt : s.wt = 0) (hn : n < 8) (hx : s.x ≠ (n : Int)) (hs : s.sh n = false) :
    wantM s n 1 = (let u : St := { s with hn := n, hk := 1, line := [], op := s.op + 1 }
      ({ u with su := supplyP u, wt := 2 }, [if supplyP u = -1 then ⟨1, n, s.op + 1, 1, 0, 0⟩ else ⟨2, supplyP u, s.op + 1, 0, n, 0⟩])) := by
  unfold wantM
  rw [if_pos (by omega)]
  unfold wishM
  rw [if_pos hwt, next_one]
  unfold beginM
  rw [if_pos rfl]
  unfold beginS
  rw [if_neg hx, if_neg (by show ¬ s.sh (n : Int).toNat = true; rw [Int.toNat_natCast, hs]; simp)]
theorem got_eq {s : St} {n : Int} (hw : s.wt = 2) (hn : n = s.hn) (hl : (gotS s n s.op).line = []) : gotM s n s.op = (reset (gotS s n s.op), []) := by
  unfold gotM
  rw [if_pos ⟨hw, rfl, hn⟩, next_empty (by exact hl)]
theorem held_noX {s : St} (h : s.x = -1) (i : Nat) : held s i = if s.sh i = true then 1 else 0 := by
  unfold held
  rw [if_neg (by omega)]
theorem does_grant {w : Nd} {n : Nat} {op m : Int} (hn : n < 8) : doesM w ⟨1, n, op, m, 0, 0⟩ = (⟨(gotM w.l n op).1, upd w.mode n m, upd w.op n op⟩, (gotM w.l n op).2, rightM (upd w.mode n m)) := by
  unfold doesM
  rw [if_pos (by simp; omega), if_pos rfl]
  simp only [Int.toNat_natCast]
theorem does_share {w : Nd} {m n : Nat} {op : Int} (hm : m < 8) (hn : n < 8) : doesM w ⟨2, m, op, 0, n, 0⟩ = (⟨(gotM w.l n op).1, upd (upd w.mode m 1) n 1, upd (upd w.op m op) n op⟩, (gotM w.l n op).2, rightM (upd (upd w.mode m 1) n 1)) := by
  unfold doesM
  rw [if_pos (by simp; omega), if_neg (by simp), if_pos rfl]
  simp only [Int.toNat_natCast]
theorem does_yield {w : Nd} {m n : Nat} {op : Int} (hm : m < 8) (hn : n < 8) : doesM w ⟨3, m, op, 0, n, 0⟩ = (⟨(gotM w.l n op).1, upd (upd w.mode m 0) n 2, upd w.op n op⟩, (gotM w.l n op).2, rightM (upd (upd w.mode m 0) n 2)) := by
  unfold doesM
  rw [if_pos (by simp; omega), if_neg (by simp), if_neg (by simp), if_pos rfl]
  simp only [Int.toNat_natCast]
theorem does_drop {w : Nd} {m : Nat} {op : Int} (hm : m < 8) : doesM w ⟨4, m, op, 0, 0, 0⟩ = (⟨(goneMM w.l m op).1, upd w.mode m 0, w.op⟩, (goneMM w.l m op).2, rightM (upd w.mode m 0)) := by
  unfold doesM
  rw [if_pos (by simp; omega), if_neg (by simp), if_neg (by simp), if_neg (by simp), if_pos rfl]
  simp only [Int.toNat_natCast]
theorem does_flush {w : Nd} {m : Nat} {op : Int} (hm : m < 8) : doesM w ⟨5, m, op, 0, 0, 0⟩ = (⟨(wroteM w.l m (w.op m) 1).1, w.mode, w.op⟩, (wroteM w.l m (w.op m) 1).2, rightM w.mode) := by
  unfold doesM
  rw [if_pos (by simp; omega), if_neg (by simp), if_neg (by simp), if_neg (by simp), if_neg (by simp), if_pos rfl]
  simp only [Int.toNat_natCast]
theorem does_discard {w : Nd} {m : Nat} {psn : Int} (hm : m < 8) : doesM w ⟨6, m, 0, 0, 0, psn⟩ = (w, [], true) := by
  unfold doesM
  rw [if_pos (by simp; omega), if_neg (by simp), if_neg (by simp), if_neg (by simp), if_neg (by simp), if_neg (by simp)]
theorem got_post {s : St} {n : Int} (hp : Post s) (hb : s.op + s.line.length ≤ 900) (hw : s.wt = 2) (hn : n = s.hn) (hl : (gotS s n s.op).line = []) : Post (reset (gotS s n s.op)) := by
  have := (got_ctr (n := n) (op := s.op) hp hb).2.post
  rw [got_eq hw hn hl] at this
  exact this
theorem ask_shared {w : Nd} (J : JN w) (ho : w.l.op ≤ 800) {n : Nat} (hn : n < 8) (hm : w.mode n = 0) : ∃ w', Run 101 ⟨(wantM w.l n 1).1, w.mode, w.op⟩ (wantM w.l n 1).2 w' ∧ JN w' ∧ w'.mode n ≠ 0 ∧ w'.l.op = w.l.op + 1 := by
  obtain ⟨hl, hr⟩ := J.idle
  have hh := J.mode n hn
  rw [hm] at hh
  obtain ⟨hx, hs⟩ := held_zero hh.symm
  have hop := J.post.inv.op
  have hxb := J.post.inv.x
  have hob := J.post.inv.owner
  have hpost := (want_ctr (n := (n : Int)) (m := 1) J.post (by rw [hl]; simp; omega)).2.post
  have e := wish_shared J.wt hn hx hs
  rw [e] at hpost ⊢
  simp only at hpost ⊢
  have hsb := supply_bound (s := { w.l with hn := (n : Int), hk := 1, line := [], op := w.l.op + 1 }) ⟨hxb, hob, J.post.inv.su, by simp; omega, by simp⟩
  have hsx := supply_x (s := { w.l with hn := (n : Int), hk := 1, line := [], op := w.l.op + 1 })
  have hsi := supply_in (s := { w.l with hn := (n : Int), hk := 1, line := [], op := w.l.op + 1 })
  generalize hsu : supplyP { w.l with hn := (n : Int), hk := 1, line := [], op := w.l.op + 1 } = m at *
  have fine0 : Fine ⟨{ w.l with hn := (n : Int), hk := 1, line := [], op := w.l.op + 1, su := m, wt := 2 }, w.mode, w.op⟩ := ⟨hpost, by simp; omega⟩
  by_cases hm1 : m = -1
  · subst hm1
    have hx1 : w.l.x = -1 := hsx rfl
    have eg : gotS { w.l with hn := (n : Int), hk := 1, line := [], op := w.l.op + 1, su := -1, wt := 2 } n (w.l.op + 1) = gotA { w.l with hn := (n : Int), hk := 1, line := [], op := w.l.op + 1, su := -1, wt := 2 } n (w.l.op + 1) := by
      unfold gotS
      rw [if_pos rfl, if_pos rfl]
    have eq := got_eq (s := { w.l with hn := (n : Int), hk := 1, line := [], op := w.l.op + 1, su := -1, wt := 2 }) (n := n) rfl rfl (by rw [eg]; rfl)
    have hp2 := got_post (s := { w.l with hn := (n : Int), hk := 1, line := [], op := w.l.op + 1, su := -1, wt := 2 }) (n := n) hpost fine0.room rfl rfl (by rw [eg]; rfl)
    rw [eg] at eq hp2
    have hmode : ∀ i, i < 8 → upd w.mode n 1 i = if upd w.l.sh n true i = true then 1 else 0 := fun i hi => by
      by_cases hin : i = n
      · subst hin; rw [upd_eq, upd_eq]; rfl
      · rw [upd_ne _ _ hin, upd_ne _ _ hin, J.mode i hi, held_noX hx1]
    refine ⟨⟨_, upd w.mode n 1, upd w.op n (w.l.op + 1)⟩, .step2 fine0 (w1 := ⟨reset (gotA { w.l with hn := (n : Int), hk := 1, line := [], op := w.l.op + 1, su := -1, wt := 2 } n (w.l.op + 1)), upd w.mode n 1, upd w.op n (w.l.op + 1)⟩) (m := []) ?_ (.done ⟨hp2, by show w.l.op + 1 + ((0 : Nat) : Int) ≤ 900; omega⟩), ⟨hp2, rfl, ?_, ?_, ?_⟩, ?_, rfl⟩
    · rw [if_pos rfl, does_grant hn, eq]
      simp only [Prod.mk.injEq, true_and]
      refine right_none fun i hi => ?_
      rw [hmode i hi]; split <;> simp
    · intro i hi
      rw [held_noX (by exact hx1)]
      show _ = if upd w.l.sh (n : Int).toNat true i = true then 1 else 0
      rw [Int.toNat_natCast]
      exact hmode i hi
    · intro h0
      exact absurd (show 0 ≤ w.l.x from h0) (by omega)
    · intro h0
      show upd w.op n (w.l.op + 1) w.l.owner.toNat = upd w.l.ops (n : Int).toNat (w.l.op + 1) w.l.owner.toNat
      rw [Int.toNat_natCast]
      by_cases hin : w.l.owner.toNat = n
      · rw [hin, upd_eq, upd_eq]
      · rw [upd_ne _ _ hin, upd_ne _ _ hin]; exact J.op h0
    · show upd w.mode n 1 n ≠ 0
      rw [upd_eq]; simp
  · obtain ⟨k, hk8, rfl⟩ := nat_of (n := m) (by omega)
    have hin := hsi hm1
    simp only [Int.toNat_natCast] at hin
    have hno : ∀ i, i < 8 → i ≠ k → w.l.x ≠ (i : Int) := fun i hi hne hxi => by
      have ⟨_, h2⟩ := J.excl (by omega)
      rcases hin with h | h
      · omega
      · rw [h2 k hk8] at h; cases h
    have eg : gotS { w.l with hn := (n : Int), hk := 1, line := [], op := w.l.op + 1, su := (k : Int), wt := 2 } n (w.l.op + 1) = gotA (gotB { w.l with hn := (n : Int), hk := 1, line := [], op := w.l.op + 1, su := (k : Int), wt := 2 } (w.l.op + 1)) n (w.l.op + 1) := by
      unfold gotS
      rw [if_pos rfl, if_neg hm1]
      rcases hin with h | h
      · rw [if_pos h]
      · by_cases hxk : w.l.x = (k : Int)
        · rw [if_pos hxk]
        · rw [if_neg hxk, if_pos (by show w.l.sh (k : Int).toNat = true; rw [Int.toNat_natCast]; exact h)]
    have eq := got_eq (s := { w.l with hn := (n : Int), hk := 1, line := [], op := w.l.op + 1, su := (k : Int), wt := 2 }) (n := n) rfl rfl (by rw [eg]; rfl)
    have hp2 := got_post (s := { w.l with hn := (n : Int), hk := 1, line := [], op := w.l.op + 1, su := (k : Int), wt := 2 }) (n := n) hpost fine0.room rfl rfl (by rw [eg]; rfl)
    rw [eg] at eq hp2
    have hmode : ∀ i, i < 8 → upd (upd w.mode k 1) n 1 i = if upd (upd w.l.sh k true) n true i = true then 1 else 0 := fun i hi => by
      by_cases hin : i = n
      · subst hin; rw [upd_eq, upd_eq]; rfl
      · rw [upd_ne _ _ hin, upd_ne _ _ hin]
        by_cases hik : i = k
        · subst hik; rw [upd_eq, upd_eq]; rfl
        · rw [upd_ne _ _ hik, upd_ne _ _ hik, J.mode i hi]
          unfold held
          rw [if_neg (hno i hi hik)]
    refine ⟨⟨_, upd (upd w.mode k 1) n 1, upd (upd w.op k (w.l.op + 1)) n (w.l.op + 1)⟩, .step2 fine0 (w1 := ⟨reset (gotA (gotB { w.l with hn := (n : Int), hk := 1, line := [], op := w.l.op + 1, su := (k : Int), wt := 2 } (w.l.op + 1)) n (w.l.op + 1)), upd (upd w.mode k 1) n 1, upd (upd w.op k (w.l.op + 1)) n (w.l.op + 1)⟩) (m := []) ?_ (.done ⟨hp2, by show w.l.op + 1 + ((0 : Nat) : Int) ≤ 900; omega⟩), ⟨hp2, rfl, ?_, ?_, ?_⟩, ?_, rfl⟩
    · rw [if_neg hm1, does_share hk8 hn, eq]
      simp only [Prod.mk.injEq, true_and]
      refine right_none fun i hi => ?_
      rw [hmode i hi]; split <;> simp
    · intro i hi
      rw [held_noX rfl]
      show _ = if upd (upd w.l.sh (k : Int).toNat true) (n : Int).toNat true i = true then 1 else 0
      rw [Int.toNat_natCast, Int.toNat_natCast]
      exact hmode i hi
    · intro h0
      exact absurd (show (0 : Int) ≤ -1 from h0) (by omega)
    · intro h0
      show upd (upd w.op k (w.l.op + 1)) n (w.l.op + 1) w.l.owner.toNat = upd (upd w.l.ops (k : Int).toNat (w.l.op + 1)) (n : Int).toNat (w.l.op + 1) w.l.owner.toNat
      rw [Int.toNat_natCast, Int.toNat_natCast]
      by_cases hin : w.l.owner.toNat = n
      · rw [hin, upd_eq, upd_eq]
      · rw [upd_ne _ _ hin, upd_ne _ _ hin]
        by_cases hik : w.l.owner.toNat = k
        · rw [hik, upd_eq, upd_eq]
        · rw [upd_ne _ _ hik, upd_ne _ _ hik]; exact J.op h0
    · show upd (upd w.mode k 1) n 1 n ≠ 0
      rw [upd_eq]; simp
end Go.Proofs.Ytjpgnjaobfbojaa
namespace Go.Proofs.Ytjpgnjaobfbojaa
open Go.Sx
theorem run_last {u : St} {md opf : Nat → Int} {n : Nat} {f : Nat} (hp : Post u) (hw : u.wt = 2) (hhn : u.hn = (n : Int)) (hn : n < 8) (hk : u.hk = 2) (hl : u.line = []) (ho : u.op ≤ 900)
    (hothers : ∀ i, i < 8 → i ≠ n → (i : Int) ≠ u.su → md i = 0) :
    ∃ w', Run (f + 1) ⟨u, md, opf⟩ [if u.su = -1 then ⟨1, n, u.op, 2, 0, 0⟩ else ⟨3, u.su, u.op, 0, n, 0⟩] w' ∧ JN w' ∧ w'.mode n = 2 ∧ w'.l.op = u.op := by
  have hsub := hp.inv.su
  have fine0 : Fine ⟨u, md, opf⟩ := ⟨hp, by show u.op + (u.line.length : Int) ≤ 900; rw [hl]; simpa using ho⟩
  -- what Got leaves
  have hg : ∃ g : St, gotS u n u.op = g ∧ g.x = n ∧ g.owner = n ∧ g.sh = (fun _ => false) ∧ g.ops = upd (fun _ => 0) n u.op ∧ g.line = [] ∧ g.op = u.op := by
    unfold gotS
    rw [if_neg (by omega)]
    split
    · exact ⟨_, rfl, rfl, rfl, rfl, by show upd _ (n : Int).toNat _ = _; rw [Int.toNat_natCast], hl, rfl⟩
    · split
      · exact ⟨_, rfl, rfl, rfl, rfl, by show upd _ (n : Int).toNat _ = _; rw [Int.toNat_natCast], hl, rfl⟩
      · exact ⟨_, rfl, rfl, rfl, rfl, by show upd _ (n : Int).toNat _ = _; rw [Int.toNat_natCast], hl, rfl⟩
  obtain ⟨g, e, gx, go, gsh, gops, gl, gop⟩ := hg
  have eq := got_eq (s := u) (n := n) hw hhn.symm (by rw [e]; exact gl)
  have hp2 := got_post (s := u) (n := n) hp fine0.room hw hhn.symm (by rw [e]; exact gl)
  rw [e] at eq hp2
  have fin : ∀ (md' op' : Nat → Int), md' n = 2 → (∀ i, i < 8 → i ≠ n → md' i = 0) → op' n = u.op → JN ⟨reset g, md', op'⟩ := fun md' op' h1 h2 h3 => by
    refine ⟨hp2, rfl, fun i hi => ?_, fun _ => ⟨?_, fun i hi => ?_⟩, fun _ => ?_⟩
    · show md' i = if g.x = (i : Int) then 2 else if g.sh i = true then 1 else 0
      by_cases hin : i = n
      · subst hin; rw [h1, if_pos gx]
      · rw [h2 i hi hin, if_neg (by rw [gx]; omega), if_neg (by rw [gsh]; simp)]
    · show g.owner = g.x
      rw [go, gx]
    · show g.sh i = false
      rw [gsh]
    · show op' g.owner.toNat = g.ops g.owner.toNat
      rw [go, gops, Int.toNat_natCast, h3, upd_eq]
  by_cases hs : u.su = -1
  · rw [if_pos hs]
    have hm : ∀ i, i < 8 → i ≠ n → upd md n 2 i = 0 := fun i hi hne => by rw [upd_ne _ _ hne]; exact hothers i hi hne (by omega)
    refine ⟨⟨reset g, upd md n 2, upd opf n u.op⟩, .step2 fine0 (w1 := ⟨reset g, upd md n 2, upd opf n u.op⟩) (m := []) ?_ (.done ⟨hp2, by show g.op + (g.line.length : Int) ≤ 900; rw [gl, gop]; simpa using ho⟩), fin _ _ (upd_eq _ _ _) hm (upd_eq _ _ _), upd_eq _ _ _, gop⟩
    rw [does_grant hn, eq]
    simp only [Prod.mk.injEq, true_and]
    exact right_one hn (upd_eq _ _ _) hm
  · rw [if_neg hs]
    obtain ⟨k, hk8, hke⟩ := nat_of (n := u.su) (by omega)
    rw [hke] at hothers ⊢
    have hm : ∀ i, i < 8 → i ≠ n → upd (upd md k 0) n 2 i = 0 := fun i hi hne => by
      rw [upd_ne _ _ hne]
      by_cases hik : i = k
      · subst hik; exact upd_eq _ _ _
      · rw [upd_ne _ _ hik]; exact hothers i hi hne (by omega)
    refine ⟨⟨reset g, upd (upd md k 0) n 2, upd opf n u.op⟩, .step2 fine0 (w1 := ⟨reset g, upd (upd md k 0) n 2, upd opf n u.op⟩) (m := []) ?_ (.done ⟨hp2, by show g.op + (g.line.length : Int) ≤ 900; rw [gl, gop]; simpa using ho⟩), fin _ _ (upd_eq _ _ _) hm (upd_eq _ _ _), upd_eq _ _ _, gop⟩
    rw [does_yield hk8 hn, eq]
    simp only [Prod.mk.injEq, true_and]
    exact right_one hn (upd_eq _ _ _) hm
theorem gone_at {s : St} (h0 : 0 ≤ s.hn) (hs : -1 ≤ s.su) (i : Nat) : goneM s i = true ↔ s.sh i = true ∧ (i : Int) ≠ s.hn ∧ (i : Int) ≠ s.su := by
  unfold goneM
  split
  · unfold upd
    split
    · rename_i h; constructor
      · intro h; cases h
      · rintro ⟨_, h2, _⟩; omega
    · rename_i h; constructor
      · intro h2; exact ⟨h2, by omega, by omega⟩
      · intro h2; exact h2.1
  · unfold upd
    split
    · constructor
      · intro h; cases h
      · rintro ⟨_, _, h2⟩; omega
    · split
      · constructor
        · intro h; cases h
        · rintro ⟨_, h2, _⟩; omega
      · constructor
        · intro h2; exact ⟨h2, by omega, by omega⟩
        · intro h2; exact h2.1
theorem supply_drop {s t : St} {i : Nat} (hx : t.x = s.x) (ho : t.owner = s.owner) (hsh : t.sh = upd s.sh i false) (hhn : t.hn = s.hn) (hhk : t.hk = s.hk) (h0 : 0 ≤ s.hn) (h1 : (i : Int) ≠ s.hn) (h2 : (i : Int) ≠ supplyP s) (hob : -1 ≤ s.owner) : supplyP t = supplyP s := by
  have hn : s.hn.toNat ≠ i := by omega
  have comm : upd (upd s.sh i false) s.hn.toNat false = upd (upd s.sh s.hn.toNat false) i false := by
    funext k
    unfold upd
    by_cases e1 : k = s.hn.toNat
    · rw [if_pos e1]; split <;> rfl
    · rw [if_neg e1]
      split <;> rfl
  have third : (i : Int) ≠ thirdP s → thirdP t = thirdP s := by
    intro h3
    unfold thirdP at h3 ⊢
    rw [hhk, hsh, hhn, upd_ne _ _ hn, comm]
    split
    · rename_i h4
      rw [if_pos h4] at h3
      split
      · rfl
      · rename_i h5
        rw [if_neg h5] at h3
        exact lowest_drop h3
    · rename_i h4
      rw [if_neg h4] at h3
      exact lowest_drop h3
  unfold supplyP at h2 ⊢
  rw [hx, ho, hhn, hsh]
  by_cases e1 : s.x = -1
  · rw [if_pos e1] at h2 ⊢
    rw [if_pos e1]
    by_cases e2 : s.owner = -1
    · rw [if_pos e2] at h2 ⊢
      rw [if_pos e2]
      exact third h2
    · rw [if_neg e2] at h2 ⊢
      rw [if_neg e2]
      by_cases e3 : s.owner = s.hn
      · rw [if_pos e3] at h2 ⊢
        rw [if_pos e3]
        exact third h2
      · rw [if_neg e3] at h2 ⊢
        rw [if_neg e3]
        by_cases e4 : s.sh s.owner.toNat = true
        · rw [if_pos e4] at h2 ⊢
          rw [upd_ne _ _ (by omega), if_pos e4]
        · rw [if_neg e4] at h2 ⊢
          rw [if_neg (by unfold upd; split <;> simp [e4])]
          exact third h2
  · rw [if_neg e1, if_neg e1]
theorem drops_cons (op : Int) (k : Nat) (l : List Int) : dropsM op ((k : Int) :: l) = ⟨4, k, op, 0, 0, 0⟩ :: dropsM op l := rfl
theorem run_drops {n : Nat} (hn : n < 8) : ∀ (rest : List Int) (i0 : Int) (u : St) (md opf : Nat → Int), Post u → u.wt = 1 → u.hn = (n : Int) → u.hk = 2 → u.line = [] → u.op ≤ 900 → u.x = -1 → listTo u.go 8 = i0 :: rest → u.su = supplyP u →
    (∀ i, i < 8 → (u.go i = true ↔ u.sh i = true ∧ (i : Int) ≠ u.hn ∧ (i : Int) ≠ u.su)) → (∀ i, i < 8 → md i = if u.sh i = true then 1 else 0) →
    ∃ w', Run (rest.length + 2) ⟨u, md, opf⟩ (dropsM u.op (i0 :: rest)) w' ∧ JN w' ∧ w'.mode n = 2 ∧ w'.l.op = u.op
  | rest, i0, u, md, opf, hp, hw, hhn, hk, hl, ho, hx, hli, hsu, hgo, hmd => by
    obtain ⟨k, hk8, hgk, rfl⟩ := (listTo_mem u.go 8 i0).1 (by rw [hli]; exact List.mem_cons_self)
    obtain ⟨hshk, hkn, hks⟩ := (hgo k hk8).1 hgk
    have hob := hp.inv.owner
    have hopb := hp.inv.op
    have fine0 : Fine ⟨u, md, opf⟩ := ⟨hp, by show u.op + (u.line.length : Int) ≤ 900; rw [hl]; simpa using ho⟩
    have hpost := (gone_ctr (n := (k : Int)) (op := u.op) hp fine0.room).2.post
    have e1 : goneMM u k u.op = leftM u k := by
      unfold goneMM
      rw [if_pos ⟨by omega, hw, rfl, by rw [Int.toNat_natCast]; exact hgk⟩]
    rw [e1] at hpost
    have hsup : supplyP (leftS u k) = supplyP u := supply_drop (s := u) (i := k) rfl rfl (by show upd u.sh (k : Int).toNat false = _; rw [Int.toNat_natCast]) rfl rfl (by omega) hkn (by rw [← hsu]; exact hks) hob.1
    have hlist : listTo (upd u.go k false) 8 = rest := by
      have := list_drop hli
      rwa [Int.toNat_natCast] at this
    have hmd' : ∀ i, i < 8 → upd md k 0 i = if upd u.sh k false i = true then 1 else 0 := fun i hi => by
      by_cases hik : i = k
      · subst hik; rw [upd_eq, upd_eq]; rfl
      · rw [upd_ne _ _ hik, upd_ne _ _ hik]; exact hmd i hi
    have hright : rightM (upd md k 0) = true := right_none fun i hi => by rw [hmd' i hi]; split <;> simp
    have hgo' : ∀ i, i < 8 → (upd u.go k false i = true ↔ upd u.sh k false i = true ∧ (i : Int) ≠ u.hn ∧ (i : Int) ≠ u.su) := fun i hi => by
      by_cases hik : i = k
      · subst hik; rw [upd_eq, upd_eq]; simp
      · rw [upd_ne _ _ hik, upd_ne _ _ hik]; exact hgo i hi
    rw [drops_cons]
    cases rest with
    | nil =>
      have hall : allOff (upd u.go (k : Int).toNat false) = true := by rw [Int.toNat_natCast]; exact allOff_iff.2 hlist
      have e2 : leftM u k = beginE (nextM FU) (leftS u k) := by
        unfold leftM
        rw [if_pos hall]
      have hnone : listTo (exS (leftS u k)).go 8 = [] := by
        refine listTo_none _ 8 fun i hi => ?_
        cases hg : (exS (leftS u k)).go i with
        | false => rfl
        | true =>
          have h1 := (gone_at (s := { leftS u k with su := supplyP (leftS u k) }) (by show 0 ≤ u.hn; omega) (by show -1 ≤ supplyP (leftS u k); rw [hsup, ← hsu]; exact hp.inv.su.1) i).1 hg
          have h2 : upd u.sh k false i = true := by
            have : upd u.sh (k : Int).toNat false i = true := h1.1
            rwa [Int.toNat_natCast] at this
          have h3 := (hgo' i hi).2 ⟨h2, h1.2.1, by rw [hsu, ← hsup]; exact h1.2.2⟩
          have h4 := (listTo_mem (upd u.go k false) 8 i).2 ⟨i, hi, h3, rfl⟩
          rw [hlist] at h4; cases h4
      have e3 : beginE (nextM FU) (leftS u k) = onM (exS (leftS u k)) := by
        unfold beginE
        rw [if_neg (by show ¬ u.x = u.hn; omega)]
        exact if_pos hnone
      rw [e2, e3] at hpost
      obtain ⟨w', h1, h2, h3, h4⟩ := run_last (u := (onM (exS (leftS u k))).1) (md := upd md k 0) (opf := opf) (n := n) (f := 0) hpost rfl hhn hn hk hl ho (fun i hi hin his => by
        rw [hmd' i hi, if_neg]
        intro hs
        have h3 := (hgo' i hi).2 ⟨hs, by omega, by rw [hsu, ← hsup]; exact his⟩
        have h4 := (listTo_mem (upd u.go k false) 8 i).2 ⟨i, hi, h3, rfl⟩
        rw [hlist] at h4; cases h4)
      refine ⟨w', .step2 fine0 (w1 := ⟨(onM (exS (leftS u k))).1, upd md k 0, opf⟩) (m := (onM (exS (leftS u k))).2) ?_ ?_, h2, h3, h4⟩
      · rw [does_drop hk8, e1, e2, e3, hright]
      · have : (onM (exS (leftS u k))).2 = [if (onM (exS (leftS u k))).1.su = -1 then ⟨1, n, (onM (exS (leftS u k))).1.op, 2, 0, 0⟩ else ⟨3, (onM (exS (leftS u k))).1.su, (onM (exS (leftS u k))).1.op, 0, n, 0⟩] := by
          rw [← hhn]; rfl
        rw [this]
        exact h1
    | cons i1 rest =>
      have hall : ¬ allOff (upd u.go (k : Int).toNat false) = true := by
        rw [Int.toNat_natCast, allOff_iff, hlist]; simp
      have e2 : leftM u k = (leftS u k, []) := by
        unfold leftM
        rw [if_neg hall]
      rw [e2] at hpost
      obtain ⟨w', h1, h2, h3, h4⟩ := run_drops hn rest i1 (leftS u k) (upd md k 0) opf hpost hw hhn hk hl ho hx (by show listTo (upd u.go (k : Int).toNat false) 8 = _; rw [Int.toNat_natCast]; exact hlist) (by show u.su = _; rw [hsup, hsu])
        (by show ∀ i, i < 8 → (upd u.go (k : Int).toNat false i = true ↔ upd u.sh (k : Int).toNat false i = true ∧ _); rw [Int.toNat_natCast]; exact hgo')
        (by show ∀ i, i < 8 → upd md k 0 i = if upd u.sh (k : Int).toNat false i = true then 1 else 0; rw [Int.toNat_natCast]; exact hmd')
      refine ⟨w', .step2 fine0 (w1 := ⟨leftS u k, upd md k 0, opf⟩) (m := []) ?_ ?_, h2, h3, h4⟩
      · rw [does_drop hk8, e1, e2, hright]
      · rw [List.append_nil]; exact h1
theorem wish_excl {s : St} {n : Nat} (hwt : s.wt = 0) (hn : n < 8) (hx : s.x ≠ (n : Int)) :
    wantM s n 2 = (let u : St := { s with hn := n, hk := 2, line := [], op := s.op + 1 }
      if listTo (exS u).go 8 = [] then onM (exS u) else ({ exS u with wt := 1 }, dropsM (s.op + 1) (listTo (exS u).go 8))) := by
  unfold wantM
  rw [if_pos (by omega)]
  unfold wishM
  rw [if_pos hwt, next_one]
  unfold beginM
  rw [if_neg (by show ¬ (2 : Int) = 1; omega), if_pos rfl]
  unfold beginE
  rw [if_neg hx]
  rfl
theorem ask_excl {w : Nd} (J : JN w) (ho : w.l.op ≤ 800) {n : Nat} (hn : n < 8) (hm : w.mode n ≠ 2) : ∃ w', Run 101 ⟨(wantM w.l n 2).1, w.mode, w.op⟩ (wantM w.l n 2).2 w' ∧ JN w' ∧ w'.mode n = 2 ∧ w'.l.op = w.l.op + 1 := by
  obtain ⟨hl, hr⟩ := J.idle
  have hx : w.l.x ≠ (n : Int) := fun h => hm (by rw [J.mode n hn]; unfold held; rw [if_pos h])
  have hop := J.post.inv.op
  have hxb := J.post.inv.x
  have hob := J.post.inv.owner
  have hpost := (want_ctr (n := (n : Int)) (m := 2) J.post (by rw [hl]; simp; omega)).2.post
  rw [wish_excl J.wt hn hx] at hpost ⊢
  simp only at hpost ⊢
  have hsb := supply_bound (s := { w.l with hn := (n : Int), hk := 2, line := [], op := w.l.op + 1 }) ⟨hxb, hob, J.post.inv.su, by simp; omega, by simp⟩
  have hga := gone_at (s := { w.l with hn := (n : Int), hk := 2, line := [], op := w.l.op + 1, su := supplyP { w.l with hn := (n : Int), hk := 2, line := [], op := w.l.op + 1 } }) (by show (0 : Int) ≤ n; omega) hsb.1
  cases hli : listTo (exS { w.l with hn := (n : Int), hk := 2, line := [], op := w.l.op + 1 }).go 8 with
  | nil =>
    rw [hli] at hpost
    rw [if_pos rfl] at hpost ⊢
    obtain ⟨w', h1, h2, h3, h4⟩ := run_last (u := (onM (exS { w.l with hn := (n : Int), hk := 2, line := [], op := w.l.op + 1 })).1) (md := w.mode) (opf := w.op) (n := n) (f := 100) hpost rfl rfl hn rfl rfl (by show w.l.op + 1 ≤ 900; omega) (fun i hi hin his => by
      rw [J.mode i hi]
      unfold held
      by_cases hxi : w.l.x = (i : Int)
      · exfalso
        refine his ?_
        show (i : Int) = supplyP _
        unfold supplyP
        rw [if_neg (by show ¬ w.l.x = -1; omega)]
        exact hxi.symm
      · rw [if_neg hxi, if_neg]
        intro hs
        have h3 := (hga i).2 ⟨hs, by show (i : Int) ≠ n; omega, his⟩
        have h4 := (listTo_mem (exS { w.l with hn := (n : Int), hk := 2, line := [], op := w.l.op + 1 }).go 8 i).2 ⟨i, hi, h3, rfl⟩
        rw [hli] at h4; cases h4)
    exact ⟨w', h1, h2, h3, h4⟩
  | cons i0 rest =>
    rw [hli] at hpost
    rw [if_neg (by simp)] at hpost ⊢
    obtain ⟨k, hk8, hgk, _⟩ := (listTo_mem (exS { w.l with hn := (n : Int), hk := 2, line := [], op := w.l.op + 1 }).go 8 i0).1 (by rw [hli]; exact List.mem_cons_self)
    have hshk : w.l.sh k = true := ((hga k).1 hgk).1
    have hx1 : w.l.x = -1 := by
      by_cases h0 : 0 ≤ w.l.x
      · have := (J.excl h0).2 k hk8
        rw [hshk] at this; cases this
      · omega
    have hlen : (i0 :: rest).length ≤ 8 := by rw [← hli]; exact listTo_len _ 8
    obtain ⟨w', h1, h2, h3, h4⟩ := run_drops hn rest i0 { exS { w.l with hn := (n : Int), hk := 2, line := [], op := w.l.op + 1 } with wt := 1 } w.mode w.op hpost rfl rfl rfl rfl (by show w.l.op + 1 ≤ 900; omega) hx1 hli rfl
      (fun i _ => hga i) (fun i hi => by rw [J.mode i hi, held_noX hx1]; rfl)
    exact ⟨w', h1.le (by simp only [List.length_cons] at hlen; omega), h2, h3, h4⟩
end Go.Proofs.Ytjpgnjaobfbojaa
namespace Go.Proofs.Ytjpgnjaobfbojaa
open Go.Sx
theorem run_discs (psn : Int) {w : Nd} (hf : Fine w) : ∀ (l : List Int) (f : Nat), (∀ p ∈ l, 0 ≤ p ∧ p < 8) → l.length ≤ f → Run f w (discs psn l) w
  | [], _, _, _ => .done hf
  | p :: l, f + 1, hp, hl => by
    obtain ⟨k, hk, rfl⟩ := nat_of (hp p List.mem_cons_self)
    refine .step2 (w1 := w) (m := []) hf (does_discard hk) ?_
    rw [List.append_nil]
    exact run_discs psn hf l f (fun q hq => hp q (List.mem_cons_of_mem _ hq)) (by simp only [List.length_cons] at hl; omega)
theorem wish_clean {s : St} {n : Nat} (hwt : s.wt = 0) (hn : n < 8) : cleanM s n = beginC (nextM 999) { s with hn := n, hk := 3, line := [], op := s.op + 1 } := by
  unfold cleanM
  rw [if_pos (by omega)]
  unfold wishM
  rw [if_pos hwt, next_one]
  unfold beginM
  rw [if_neg (by show ¬ (3 : Int) = 1; omega), if_neg (by show ¬ (3 : Int) = 2; omega)]
theorem JN.right {w : Nd} (J : JN w) : rightM w.mode = true := right_held J.mode (fun h => (J.excl h).2) J.post.inv.x.2
theorem ask_clean {w : Nd} (J : JN w) (ho : w.l.op ≤ 800) {n : Nat} (hn : n < 8) : ∃ w', Run 101 ⟨(cleanM w.l n).1, w.mode, w.op⟩ (cleanM w.l n).2 w' ∧ JN w' ∧ w'.l.op = w.l.op + 1 := by
  obtain ⟨hl, hr⟩ := J.idle
  have hop := J.post.inv.op
  have hob := J.post.inv.owner
  have hpost := (clean_ctr (n := (n : Int)) J.post (by rw [hl]; simp; omega)).2.post
  rw [wish_clean J.wt hn] at hpost ⊢
  unfold beginC at hpost ⊢
  by_cases h0 : w.l.owner = -1
  · rw [if_pos h0] at hpost ⊢
    unfold needM at hpost ⊢
    rw [next_empty rfl] at hpost ⊢
    have J' : JN ⟨reset { w.l with hn := (n : Int), hk := 3, line := [], op := w.l.op + 1, pa := upd (upd w.l.pa (n : Int).toNat true) (n : Int).toNat false }, w.mode, w.op⟩ := ⟨hpost, rfl, J.mode, J.excl, J.op⟩
    have hf : Fine ⟨reset { w.l with hn := (n : Int), hk := 3, line := [], op := w.l.op + 1, pa := upd (upd w.l.pa (n : Int).toNat true) (n : Int).toNat false }, w.mode, w.op⟩ := ⟨hpost, by show w.l.op + 1 + ((0 : Nat) : Int) ≤ 900; omega⟩
    exact ⟨_, run_discs 2147483647 hf [(n : Int)] 101 (fun p hp => by obtain rfl := List.mem_singleton.1 hp; omega) (by simp), J', rfl⟩
  · rw [if_neg h0] at hpost ⊢
    obtain ⟨k, hk, hke⟩ := nat_of (n := w.l.owner) (by omega)
    have hf : Fine ⟨{ w.l with hn := (n : Int), hk := 3, line := [], op := w.l.op + 1, pa := upd w.l.pa (n : Int).toNat true, wt := 3 }, w.mode, w.op⟩ := ⟨hpost, by show w.l.op + 1 + ((0 : Nat) : Int) ≤ 900; omega⟩
    have hopk := J.op (by omega)
    rw [hke, Int.toNat_natCast] at hopk
    have ew : wroteM { w.l with hn := (n : Int), hk := 3, line := [], op := w.l.op + 1, pa := upd w.l.pa (n : Int).toNat true, wt := 3 } k (w.op k) 1 =
        (reset (wroteS { w.l with hn := (n : Int), hk := 3, line := [], op := w.l.op + 1, pa := upd w.l.pa (n : Int).toNat true, wt := 3 } k), discs 1 (listTo (upd w.l.pa (n : Int).toNat true) 8) ++ []) := by
      unfold wroteM
      rw [if_pos (by omega), if_pos ⟨hke, by rw [Int.toNat_natCast]; exact hopk.symm, rfl⟩, next_empty rfl]
    have hpost2 := (wrote_ctr (n := (k : Int)) (op := w.op k) (psn := 1) hpost hf.room).2.post
    rw [ew] at hpost2
    have J' : JN ⟨reset (wroteS { w.l with hn := (n : Int), hk := 3, line := [], op := w.l.op + 1, pa := upd w.l.pa (n : Int).toNat true, wt := 3 } k), w.mode, w.op⟩ := by
      refine ⟨hpost2, rfl, J.mode, fun hx => ?_, fun hx => ?_⟩
      · have hx' : 0 ≤ w.l.x := hx
        obtain ⟨h1, h2⟩ := J.excl hx'
        refine ⟨?_, h2⟩
        show (if w.l.x = (k : Int) then w.l.owner else -1) = w.l.x
        rw [if_pos (by omega), h1]
      · have hx' : 0 ≤ (if w.l.x = (k : Int) then w.l.owner else -1) := hx
        by_cases hxk : w.l.x = (k : Int)
        · show w.op (if w.l.x = (k : Int) then w.l.owner else -1).toNat = w.l.ops (if w.l.x = (k : Int) then w.l.owner else -1).toNat
          rw [if_pos hxk]
          exact J.op (by omega)
        · rw [if_neg hxk] at hx'; omega
    have hf2 : Fine ⟨reset (wroteS { w.l with hn := (n : Int), hk := 3, line := [], op := w.l.op + 1, pa := upd w.l.pa (n : Int).toNat true, wt := 3 } k), w.mode, w.op⟩ := ⟨hpost2, by show w.l.op + 1 + ((0 : Nat) : Int) ≤ 900; omega⟩
    refine ⟨_, .step2 hf (w1 := ⟨reset (wroteS { w.l with hn := (n : Int), hk := 3, line := [], op := w.l.op + 1, pa := upd w.l.pa (n : Int).toNat true, wt := 3 } k), w.mode, w.op⟩) (m := discs 1 (listTo (upd w.l.pa (n : Int).toNat true) 8)) ?_ ?_, J', rfl⟩
    · have eo : (⟨5, w.l.owner, w.l.op + 1, 0, 0, 0⟩ : Ord) = ⟨5, (k : Int), w.l.op + 1, 0, 0, 0⟩ := by rw [hke]
      refine (congrArg (doesM _) eo).trans ((does_flush hk).trans ?_)
      show (_, _, rightM w.mode) = _
      rw [J.right]
      simp only [Prod.mk.injEq, and_true]
      rw [List.append_nil] at ew
      exact ⟨congrArg (fun r => (⟨r.1, w.mode, w.op⟩ : Nd)) ew, congrArg Prod.snd ew⟩
    · rw [List.nil_append]
      exact run_discs 1 hf2 _ 100 (fun p hp => by
        obtain ⟨j, h1, _, h3⟩ := (listTo_mem _ 8 p).1 hp
        omega) (Nat.le_trans (listTo_len _ 8) (by omega))
theorem ask_rel {w : Nd} (J : JN w) (ho : w.l.op ≤ 800) {n : Nat} (hn : n < 8) : ∃ w', Run 101 ⟨(relM w.l n (w.op n)).1, upd w.mode n 0, w.op⟩ (relM w.l n (w.op n)).2 w' ∧ JN w' ∧ w'.l.op = w.l.op := by
  obtain ⟨hl, hr⟩ := J.idle
  have hop := J.post.inv.op
  have hwt := J.wt
  have hpost := (rel_ctr (n := (n : Int)) (op := w.op n) J.post (by rw [hl]; simp; omega)).2.post
  have e : relM w.l n (w.op n) = (relS w.l n, []) := by
    unfold relM
    rw [if_pos (by omega), if_neg (by omega), if_neg (by omega), if_neg (by omega)]
  rw [e] at hpost ⊢
  have hx : (relS w.l n).x = if w.l.x = (n : Int) then -1 else w.l.x := rfl
  have hown : (relS w.l n).owner = if w.l.owner = (n : Int) then -1 else w.l.owner := rfl
  have hsh : (relS w.l n).sh = upd w.l.sh n false := by show upd w.l.sh (n : Int).toNat false = _; rw [Int.toNat_natCast]
  have hops : (relS w.l n).ops = upd w.l.ops n 0 := by show upd w.l.ops (n : Int).toNat 0 = _; rw [Int.toNat_natCast]
  refine ⟨⟨relS w.l n, upd w.mode n 0, w.op⟩, .done ⟨hpost, by show w.l.op + (w.l.line.length : Int) ≤ 900; rw [hl]; simp; omega⟩, ⟨hpost, hwt, fun i hi => ?_, fun h0 => ?_, fun h0 => ?_⟩, rfl⟩
  · show upd w.mode n 0 i = held (relS w.l n) i
    unfold held
    rw [hx, hsh]
    by_cases hin : i = n
    · subst hin
      rw [upd_eq, upd_eq, if_neg (by split <;> omega)]; rfl
    · rw [upd_ne _ _ hin, upd_ne _ _ hin, J.mode i hi]
      unfold held
      by_cases hxn : w.l.x = (n : Int)
      · rw [if_pos hxn, if_neg (by omega), if_neg (by omega : ¬ (-1 : Int) = (i : Int))]
      · rw [if_neg hxn]
  · have h1 : 0 ≤ (relS w.l n).x := h0
    show (relS w.l n).owner = (relS w.l n).x ∧ ∀ i, i < 8 → (relS w.l n).sh i = false
    rw [hx] at h1 ⊢
    rw [hown, hsh]
    by_cases hxn : w.l.x = (n : Int)
    · rw [if_pos hxn] at h1; omega
    · rw [if_neg hxn] at h1 ⊢
      obtain ⟨h2, h3⟩ := J.excl h1
      refine ⟨by rw [if_neg (by omega)]; exact h2, fun i hi => ?_⟩
      unfold upd
      split
      · rfl
      · exact h3 i hi
  · have h1 : 0 ≤ (relS w.l n).owner := h0
    show w.op (relS w.l n).owner.toNat = (relS w.l n).ops (relS w.l n).owner.toNat
    rw [hown] at h1 ⊢
    rw [hops]
    by_cases hon : w.l.owner = (n : Int)
    · rw [if_pos hon] at h1; omega
    · rw [if_neg hon] at h1 ⊢
      rw [upd_ne _ _ (by omega)]
      exact J.op h1
theorem ask_ok {w : Nd} (J : JN w) (ho : w.l.op ≤ 800) {k n : Int} (hn : 0 ≤ n ∧ n < 8) : ∃ w', Run 101 (begM w k n).1 (begM w k n).2 w' ∧ JN w' ∧ w.l.op ≤ w'.l.op ∧ w'.l.op ≤ w.l.op + 1 ∧ (k = 1 → w'.mode n.toNat ≠ 0) ∧ (k = 2 → w'.mode n.toNat = 2) := by
  obtain ⟨i, hi, rfl⟩ := nat_of hn
  have same : ∃ w', Run 101 w [] w' ∧ JN w' ∧ w.l.op ≤ w'.l.op ∧ w'.l.op ≤ w.l.op + 1 ∧ w' = w := ⟨w, .done (J.fine (by omega)), J, Int.le_refl _, by omega, rfl⟩
  unfold begM
  by_cases h1 : k = 1
  · rw [if_pos h1]
    by_cases hm : w.mode (i : Int).toNat = 0
    · rw [if_pos hm]
      rw [Int.toNat_natCast] at hm
      obtain ⟨w', a, b, c, d⟩ := ask_shared J ho hi hm
      exact ⟨w', a, b, by omega, by omega, fun _ => by rw [Int.toNat_natCast]; exact c, fun h => by omega⟩
    · rw [if_neg hm]
      obtain ⟨w', a, b, c, d, rfl⟩ := same
      exact ⟨w', a, b, c, d, fun _ => hm, fun h => by omega⟩
  · rw [if_neg h1]
    by_cases h2 : k = 2
    · rw [if_pos h2]
      by_cases hm : w.mode (i : Int).toNat = 2
      · rw [if_pos hm]
        obtain ⟨w', a, b, c, d, rfl⟩ := same
        exact ⟨w', a, b, c, d, fun h => absurd h h1, fun _ => hm⟩
      · rw [if_neg hm]
        rw [Int.toNat_natCast] at hm
        obtain ⟨w', a, b, c, d⟩ := ask_excl J ho hi hm
        exact ⟨w', a, b, by omega, by omega, fun h => absurd h h1, fun _ => by rw [Int.toNat_natCast]; exact c⟩
    · rw [if_neg h2]
      by_cases h3 : k = 3
      · rw [if_pos h3]
        obtain ⟨w', a, b, c⟩ := ask_clean J ho hi
        exact ⟨w', a, b, by omega, by omega, fun h => absurd h h1, fun h => absurd h h2⟩
      · rw [if_neg h3]
        by_cases h4 : k = 4
        · rw [if_pos h4]
          by_cases hm : w.mode (i : Int).toNat = 0
          · rw [if_pos hm]
            obtain ⟨w', a, b, c, d, _⟩ := same
            exact ⟨w', a, b, c, d, fun h => absurd h h1, fun h => absurd h h2⟩
          · rw [if_neg hm]
            obtain ⟨w', a, b, c⟩ := ask_rel J ho hi
            rw [Int.toNat_natCast]
            exact ⟨w', a, b, by omega, by omega, fun h => absurd h h1, fun h => absurd h h2⟩
        · rw [if_neg h4]
          obtain ⟨w', a, b, c, d, _⟩ := same
          exact ⟨w', a, b, c, d, fun h => absurd h h1, fun h => absurd h h2⟩
def newS : St := { x := -1, owner := -1, sh := fun _ => false, pa := fun _ => false, ops := fun _ => 0, hn := 0, hk := 0, wt := 0, go := fun _ => false, su := -1, op := 0, line := [] }
theorem new_J : JN ⟨newS, fun _ => 0, fun _ => 0⟩ :=
  ⟨⟨⟨by simp [newS], by simp [newS], by simp [newS], by simp [newS], by simp [newS]⟩, fun _ => ⟨rfl, rfl⟩, fun h => absurd rfl h⟩, rfl, fun _ _ => rfl, fun h => absurd (show (0 : Int) ≤ -1 from h) (by omega), fun _ => rfl⟩
end Go.Proofs.Ytjpgnjaobfbojaa

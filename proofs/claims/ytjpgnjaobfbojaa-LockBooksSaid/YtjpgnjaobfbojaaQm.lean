import Derived.Test.YtjpgnjaobfbojaaQl
namespace Go.Proofs.Ytjpgnjaobfbojaa
open Go.Sx
def Kd (s : St) : Prop := (s.wt = 1 → s.hk = 2) ∧ (s.wt = 2 → s.hk = 1 ∨ s.hk = 2)
theorem Kd.idle {s : St} (h : s.wt = 0) : Kd s := ⟨fun h1 => by omega, fun h1 => by omega⟩
theorem Kd.of {s t : St} (h : Kd s) (h1 : t.wt = s.wt) (h2 : t.hk = s.hk) : Kd t := by unfold Kd; rw [h1, h2]; exact h
theorem beginS_K {nx : St → St × List Ord} {s : St} (hk : s.hk = 1) (hn : ∀ s, s.wt = 0 → Kd (nx s).1) : Kd (beginS nx s).1 := by
  unfold beginS
  split
  · exact hn _ rfl
  · split
    · exact hn _ rfl
    · exact ⟨fun h => absurd h (by show ¬ (2 : Int) = 1; omega), fun _ => .inl hk⟩
theorem beginE_K {nx : St → St × List Ord} {s : St} (hk : s.hk = 2) (hn : ∀ s, s.wt = 0 → Kd (nx s).1) : Kd (beginE nx s).1 := by
  unfold beginE
  split
  · exact hn _ rfl
  · dsimp only
    split
    · exact ⟨fun _ => hk, fun _ => .inr hk⟩
    · exact ⟨fun _ => hk, fun h => absurd h (by show ¬ (1 : Int) = 2; omega)⟩
theorem needM_K {nx : St → St × List Ord} {s : St} (hn : ∀ s, s.wt = 0 → Kd (nx s).1) : Kd (needM nx s).1 := hn _ rfl
theorem beginM_K {nx : St → St × List Ord} {s : St} (hn : ∀ s, s.wt = 0 → Kd (nx s).1) : Kd (beginM nx s).1 := by
  unfold beginM
  split
  · rename_i h; exact beginS_K h hn
  · split
    · rename_i h; exact beginE_K h hn
    · unfold beginC
      split
      · exact needM_K hn
      · exact ⟨fun h => absurd h (by show ¬ (3 : Int) = 1; omega), fun h => absurd h (by show ¬ (3 : Int) = 2; omega)⟩
theorem next_K : ∀ (n : Nat) (s : St), s.wt = 0 → Kd (nextM n s).1
  | 0, _, h => .idle h
  | n + 1, s, h => by
    unfold nextM
    split
    · exact .idle h
    · exact beginM_K (next_K n)
structure P2 (s : St) : Prop where
  post : Post s
  kd : Kd s
theorem lenFU {u : St} (hv : Inv u) (hl : u.line.length ≤ 1000) (pa : Nat → Bool) : (nextM FU (reset { u with pa := pa })).2.length < 1000000 := by
  have h := (next_of hv hl pa).2.len
  have e : (reset { u with pa := pa }).line.length = u.line.length := rfl
  rw [e] at h
  exact Nat.lt_of_le_of_lt h (by omega)
theorem doneFU {u : St} (hv : Inv u) (hl : u.line.length ≤ 1000) : RC 89 [] u (nextM FU (reset u)).1 (nextM FU (reset u)).2 := doneR FU u hl (by unfold FU; omega) hv
theorem invPa {u : St} (hv : Inv u) (pa : Nat → Bool) : Inv { u with pa := pa } := ⟨hv.x, hv.owner, hv.su, hv.op, hv.line⟩
theorem beginFU {u : St} (hv : Inv u) (hi : Hand u) (hk : 1 ≤ u.hk ∧ u.hk ≤ 3) (hl : u.line.length ≤ 1000) : RC 91 [] u (beginM (nextM FU) u).1 (beginM (nextM FU) u).2 :=
  beginR_ctr hv hi hk (lenFU hv hl) fun pa => doneFU (invPa hv pa) hl
theorem beginFU_S {u : St} (hv : Inv u) (hi : Hand u) (hk : u.hk = 1) (hl : u.line.length ≤ 1000) : RC 91 [] u (beginS (nextM FU) u).1 (beginS (nextM FU) u).2 := by
  have h := beginFU hv hi (by omega) hl
  unfold beginM at h
  rw [if_pos hk] at h
  exact h
theorem beginFU_E {u : St} (hv : Inv u) (hi : Hand u) (hk : u.hk = 2) (hl : u.line.length ≤ 1000) : RC 91 [] u (beginE (nextM FU) u).1 (beginE (nextM FU) u).2 := by
  have h := beginFU hv hi (by omega) hl
  unfold beginM at h
  rw [if_neg (by omega), if_pos hk] at h
  exact h
theorem needFU {u : St} (hv : Inv u) (hi : Hand u) (hl : u.line.length ≤ 1000) : RC 92 [] u (needM (nextM FU) u).1 (needM (nextM FU) u).2 := needlessR hi (lenFU hv hl _) (doneFU (invPa hv _) hl)
section
variable {s : St}
theorem wishR_out {n k : Int} (ho : ¬ (0 ≤ n ∧ n < 8)) : RC 55 [.agg #[.int .i64 n, .int .i64 k]] s s [] := by
  by_cases h : n < 0
  · exact wishR_lo h
  · exact wishR_hi (by omega) (by omega)
theorem wishR_ctr {n k : Int} (hp : Post s) (hb : s.op + s.line.length ≤ 900) (hn : 0 ≤ n ∧ n < 8) (hk : 1 ≤ k ∧ k ≤ 3) : RC 55 [.agg #[.int .i64 n, .int .i64 k]] s (wishM s n k).1 (wishM s n k).2 := by
  have hop := hp.inv.op
  unfold wishM
  by_cases hw : s.wt = 0
  · rw [if_pos hw]
    have ⟨hl, hr⟩ := hp.idle hw
    have hv : Inv { s with line := [(n, k)] } := ⟨hp.inv.x, hp.inv.owner, hp.inv.su, by show 0 ≤ s.op ∧ s.op + ((1 : Nat) : Int) < 4611686018427387904; omega, fun w hw => by
      obtain rfl := List.mem_singleton.1 hw
      exact ⟨hn.1, hn.2, hk.1, hk.2⟩⟩
    have h := doneFU hv (by show 1 ≤ 1000; omega)
    have e : reset { s with line := [(n, k)] } = { s with line := [(n, k)] } := by
      have : reset { s with line := [(n, k)] } = { reset s with line := [(n, k)] } := rfl
      rw [this, hr]
    rw [e] at h
    have h2 := wishR_begin hn hw h
    have e2 : { s with line := [] } = s := by cases s; simp only at hl; subst hl; rfl
    rw [e2] at h2
    exact h2
  · rw [if_neg hw]
    by_cases hh : s.hn = n ∧ s.hk = k
    · rw [if_pos hh]; exact wishR_hand hn hw hh
    · rw [if_neg hh]
      cases hl : s.line with
      | nil =>
        have e : { s with line := [] } = s := by cases s; simp only at hl; subst hl; rfl
        have h := wishR_first (s := s) hn hw hh
        rw [e] at h
        rw [if_neg (by simp)]
        exact h
      | cons x l =>
        have e : { s with line := x :: l } = s := by cases s; simp only at hl; subst hl; rfl
        rw [hl] at hb
        have h := wishR_line (s := s) (x := x) (l := l) hn (by omega) hw hh
        rw [e] at h
        by_cases hm : (n, k) ∈ x :: l
        · rw [if_pos hm]
          rw [if_pos hm, e] at h
          exact h
        · rw [if_neg hm]
          rw [if_neg hm] at h
          exact h
theorem wantR_ctr {n m : Int} (hp : Post s) (hb : s.op + s.line.length ≤ 900) : RC 54 [.int .i64 n, .int .i64 m] s (wantM s n m).1 (wantM s n m).2 := by
  unfold wantM
  by_cases hm : m = 1 ∨ m = 2
  · by_cases hn : 0 ≤ n ∧ n < 8
    · rw [if_pos ⟨hn, hm⟩]
      have h := wishR_ctr (n := n) (k := m) hp hb hn (by omega)
      rcases hm with rfl | rfl
      · exact wantR_1 h
      · exact wantR_2 h
    · rw [if_neg (fun h => hn h.1)]
      rcases hm with rfl | rfl
      · exact wantR_1 (wishR_out hn)
      · exact wantR_2 (wishR_out hn)
  · rw [if_neg (fun h => hm h.2)]; exact wantR_out hm
theorem cleanR_ctr {n : Int} (hp : Post s) (hb : s.op + s.line.length ≤ 900) : RC 55 [.agg #[.int .i64 n, .int .i64 3]] s (cleanM s n).1 (cleanM s n).2 := by
  unfold cleanM
  by_cases hn : 0 ≤ n ∧ n < 8
  · rw [if_pos hn]; exact wishR_ctr hp hb hn (by omega)
  · rw [if_neg hn]; exact wishR_out hn
theorem awayR_ctr {n : Int} (hv : Inv s) (hh : Hand s) (hk : s.hk = 2) (hl : s.line.length ≤ 1000) (hn : 0 ≤ n ∧ n < 8) : RC 90 [.int .i64 n] s (leftM s n).1 (leftM s n).2 := by
  have hv' : Inv (leftS s n) := ⟨hv.x, hv.owner, hv.su, hv.op, hv.line⟩
  unfold leftM
  by_cases hg : allOff (upd s.go n.toNat false) = true
  · rw [if_pos hg]; exact awayR_all hn hg (beginFU_E hv' hh hk hl)
  · rw [if_neg hg]; exact awayR_more hn (Bool.eq_false_iff.2 hg)
theorem goneR_ctr {n op : Int} (hp : P2 s) (hb : s.op + s.line.length ≤ 900) : RC 56 [.int .i64 n, .int .i64 op] s (goneMM s n op).1 (goneMM s n op).2 := by
  have hop := hp.post.inv.op
  unfold goneMM
  by_cases h : (0 ≤ n ∧ n < 8) ∧ s.wt = 1 ∧ op = s.op ∧ s.go n.toNat = true
  · rw [if_pos h]
    have ⟨b1, _⟩ := hp.post.busy (by rw [h.2.1]; omega)
    exact wentR_in h (awayR_ctr hp.post.inv b1 (hp.kd.1 h.2.1) (by omega) h.1)
  · rw [if_neg h]; exact wentR_out h
theorem gotR_ctr {n op : Int} (hp : P2 s) (hb : s.op + s.line.length ≤ 900) : RC 57 [.int .i64 n, .int .i64 op] s (gotM s n op).1 (gotM s n op).2 := by
  have hop := hp.post.inv.op
  unfold gotM
  by_cases h : s.wt = 2 ∧ op = s.op ∧ n = s.hn
  · rw [if_pos h]
    have ⟨b1, _⟩ := hp.post.busy (by rw [h.1]; omega)
    have ⟨hv, e1, e2⟩ := gotS_inv (n := n) (op := op) hp.post.inv (by have := b1.1; have := b1.2; omega)
    have h2 := doneFU hv (by rw [e2]; omega)
    exact gotR_in b1 hp.post.inv.su h (by rw [gotR_eq hp.post.inv.su.1]; exact h2)
  · rw [if_neg h]
    exact gotR_out (fun h => (hp.post.busy (by rw [h]; omega)).1) hp.post.inv.su (fun h2 => h h2.2)
theorem relR_ctr {n op : Int} (hp : P2 s) (hb : s.op + s.line.length ≤ 900) : RC 59 [.int .i64 n, .int .i64 op] s (relM s n op).1 (relM s n op).2 := by
  have hop := hp.post.inv.op
  have hv := relS_inv (n := n) hp.post.inv
  unfold relM
  by_cases hn : 0 ≤ n ∧ n < 8
  · rw [if_pos hn]
    by_cases h1 : s.wt = 1 ∧ s.go n.toNat = true
    · rw [if_pos h1]
      have ⟨b1, _⟩ := hp.post.busy (by rw [h1.1]; omega)
      exact relR_left (by omega) ⟨hn, h1⟩ (awayR_ctr (s := relS s n) hv b1 (hp.kd.1 h1.1) (by show s.line.length ≤ 1000; omega) hn)
    · rw [if_neg h1]
      by_cases h2 : s.wt = 2 ∧ s.su = n ∧ op < s.op
      · rw [if_pos h2]
        have ⟨b1, _⟩ := hp.post.busy (by rw [h2.1]; omega)
        have hv' : Inv { relS s n with op := s.op + 1 } := ⟨hv.x, hv.owner, hv.su, by show 0 ≤ s.op + 1 ∧ s.op + 1 + s.line.length < 4611686018427387904; omega, hv.line⟩
        by_cases hk : s.hk = 1
        · rw [if_pos hk]
          exact relR_beg (by omega) ⟨hn, h2⟩ (beginFU_S hv' b1 hk (by show s.line.length ≤ 1000; omega))
        · rw [if_neg hk]
          exact relR_beg (by omega) ⟨hn, h2⟩ (beginFU_E hv' b1 ((hp.kd.2 h2.1).resolve_left hk) (by show s.line.length ≤ 1000; omega))
      · rw [if_neg h2]
        by_cases h3 : s.wt = 3 ∧ s.owner = n
        · rw [if_pos h3]
          have ⟨b1, _⟩ := hp.post.busy (by rw [h3.1]; omega)
          exact relR_need (by omega) ⟨hn, h3⟩ (needFU hv b1 (by show s.line.length ≤ 1000; omega))
        · rw [if_neg h3]; exact relR_nil ⟨hn, h1, h2, h3⟩
  · rw [if_neg hn]; exact relR_out hn
theorem wroteR_ctr {n op psn : Int} (hp : P2 s) (hb : s.op + s.line.length ≤ 900) : RC 60 [.int .i64 n, .int .i64 op, .int .i64 psn] s (wroteM s n op psn).1 (wroteM s n op psn).2 := by
  have hop := hp.post.inv.op
  unfold wroteM
  by_cases hn : (0 ≤ n ∧ n < 8) ∧ 0 ≤ psn ∧ psn ≤ 2147483647
  · rw [if_pos hn]
    by_cases h1 : s.owner = n ∧ s.ops n.toNat = op ∧ s.wt = 3
    · rw [if_pos h1]
      have hv := wroteS_inv (n := n) hp.post.inv
      exact wroteR_w hn h1 (lenFU hv (by show s.line.length ≤ 1000; omega) (wroteS s n).pa) (doneFU hv (by show s.line.length ≤ 1000; omega))
    · rw [if_neg h1]; exact wroteR_t hn h1
  · rw [if_neg hn]; exact wroteR_out hn
theorem wish_K {n k : Int} (hk : Kd s) : Kd (wishM s n k).1 := by
  unfold wishM
  split
  · rename_i h; exact next_K _ _ h
  · split
    · exact hk
    · split
      · exact hk
      · exact hk.of rfl rfl
theorem want_K {n m : Int} (hk : Kd s) : Kd (wantM s n m).1 := by
  unfold wantM
  split
  · exact wish_K hk
  · exact hk
theorem clean_K {n : Int} (hk : Kd s) : Kd (cleanM s n).1 := by
  unfold cleanM
  split
  · exact wish_K hk
  · exact hk
theorem left_K {n : Int} (h2 : s.hk = 2) (hk : Kd s) : Kd (leftM s n).1 := by
  unfold leftM
  split
  · exact beginE_K h2 (next_K _)
  · exact hk.of rfl rfl
theorem gone_K {n op : Int} (hk : Kd s) : Kd (goneMM s n op).1 := by
  unfold goneMM
  split
  · rename_i h; exact left_K (hk.1 h.2.1) hk
  · exact hk
theorem got_K {n op : Int} (hk : Kd s) : Kd (gotM s n op).1 := by
  unfold gotM
  split
  · exact next_K _ _ rfl
  · exact hk
theorem rel_K {n op : Int} (hk : Kd s) : Kd (relM s n op).1 := by
  unfold relM
  split
  · split
    · rename_i h; exact left_K (s := relS s n) (hk.1 h.1) (hk.of rfl rfl)
    · split
      · rename_i h
        split
        · rename_i h1; exact beginS_K h1 (next_K _)
        · rename_i h1; exact beginE_K ((hk.2 h.1).resolve_left h1) (next_K _)
      · split
        · exact needM_K (next_K _)
        · exact hk.of rfl rfl
  · exact hk
theorem wrote_K {n op psn : Int} (hk : Kd s) : Kd (wroteM s n op psn).1 := by
  unfold wroteM
  split
  · split
    · exact next_K _ _ rfl
    · show Kd (wroteT s n op)
      unfold wroteT
      split
      · split
        · exact hk.of rfl rfl
        · exact hk
      · exact hk
  · exact hk
end
end Go.Proofs.Ytjpgnjaobfbojaa
namespace Go.Proofs.Ytjpgnjaobfbojaa
open Go.Sx
set_option maxRecDepth 20000
def heldM (s : St) (n op : Int) : Int := if op = -2 then s.op else if op = -1 then (if n ≥ 0 then (if n < 8 then s.ops n.toNat else op) else op) else op
theorem held_ctr (s : St) (k n m op psn : Int) : Ctr Try.prog 58 (lockP ++ [.agg #[.int .i64 k, .int .i64 n, .int .i64 m, .int .i64 op, .int .i64 psn]]) (rlock 1 s) (.int .i64 (heldM s n op)) (rlock 1 s) := by
  · by_cases h0 : ((op) : Int) = (-2)
    · simp only [heldM, if_pos h0]
      exact pth (dr s [iv k, iv n, iv m, iv op, iv psn] [olv 1 s.line] [encL s.line]) ⟨[kt .eql 2 (sv 43) (iv (-2))], [], []⟩ [] ⟨eT op (-2), trivial⟩ trivial trivial trivial 2 (rlockL []) (lockP ++ [.agg #[sv 40, sv 41, sv 42, sv 43, sv 44]]) [(0, 0), (1, 1)]
    · by_cases h1 : ((op) : Int) = (-1)
      · by_cases h2 : ((n) : Int) ≥ (0)
        · by_cases h3 : ((n) : Int) < (8)
          · simp only [heldM, if_neg h0, if_pos h1, if_pos h2, if_pos h3]
            exact pth (dr s [iv k, iv n, iv m, iv op, iv psn, iv (s.ops n.toNat)] [olv 1 s.line, .v (pt 0 (18 + n.toNat))] [encL s.line]) ⟨[kf .eql 2 (sv 43) (iv (-2)), kt .eql 2 (sv 43) (iv (-1)), kt .geq 3 (sv 41) (iv 0), kt .lss 3 (sv 41) (iv 8), kx 30 0 18 41 1], [], [([2, 1000000], eLdR 1 3 [] 1 0 45)]⟩ [] ⟨eF op (-2), eT op (-1), qT (n ≥ 0), qT (n < 8), iA u30 z2 rfl rfl, trivial⟩ trivial ⟨ld (lops s s.line n.toNat), trivial⟩ trivial 2 (rlockL []) (lockP ++ [.agg #[sv 40, sv 41, sv 42, sv 43, sv 44]]) [(0, 0), (1, 1)]
          · simp only [heldM, if_neg h0, if_pos h1, if_pos h2, if_neg h3]
            exact pth (dr s [iv k, iv n, iv m, iv op, iv psn] [olv 1 s.line] [encL s.line]) ⟨[kf .eql 2 (sv 43) (iv (-2)), kt .eql 2 (sv 43) (iv (-1)), kt .geq 3 (sv 41) (iv 0), kf .lss 3 (sv 41) (iv 8)], [], []⟩ [] ⟨eF op (-2), eT op (-1), qT (n ≥ 0), qF (n < 8), trivial⟩ trivial trivial trivial 2 (rlockL []) (lockP ++ [.agg #[sv 40, sv 41, sv 42, sv 43, sv 44]]) [(0, 0), (1, 1)]
        · simp only [heldM, if_neg h0, if_pos h1, if_neg h2]
          exact pth (dr s [iv k, iv n, iv m, iv op, iv psn] [olv 1 s.line] [encL s.line]) ⟨[kf .eql 2 (sv 43) (iv (-2)), kt .eql 2 (sv 43) (iv (-1)), kf .geq 3 (sv 41) (iv 0)], [], []⟩ [] ⟨eF op (-2), eT op (-1), qF (n ≥ 0), trivial⟩ trivial trivial trivial 2 (rlockL []) (lockP ++ [.agg #[sv 40, sv 41, sv 42, sv 43, sv 44]]) [(0, 0), (1, 1)]
      · simp only [heldM, if_neg h0, if_neg h1]
        exact pth (dr s [iv k, iv n, iv m, iv op, iv psn] [olv 1 s.line] [encL s.line]) ⟨[kf .eql 2 (sv 43) (iv (-2)), kf .eql 2 (sv 43) (iv (-1))], [], []⟩ [] ⟨eF op (-2), eF op (-1), trivial⟩ trivial trivial trivial 2 (rlockL []) (lockP ++ [.agg #[sv 40, sv 41, sv 42, sv 43, sv 44]]) [(0, 0), (1, 1)]
def plockB (t : St) (o : List Ord) : HL := [(0, .row 73 (.lst (cells t (lineV 3 t.line))) false), (1, .dead), (3, .row 34 (.lst (encL t.line)) false), (2, outO o)]
def PC (g : FuncId) (args : List Value) (s t : St) (o : List Ord) : Prop := ∃ cap, CapOK o cap ∧ Ctr Try.prog g (lockP ++ args) (lockA 1 s) (ordR 2 cap o) (plockB t o)
theorem MC.toPC {g : FuncId} {args : List Value} {s t : St} {o : List Ord} (h : MC g args s t o) : PC g args s t o := by
  obtain ⟨cap, hc, h⟩ := h
  cases o with
  | nil =>
    refine ⟨cap, hc, (ctr_ghost h 2 45 false rfl rfl).reB fun i => ?_⟩
    match i with
    | 0 => rfl
    | 1 => rfl
    | 2 => rfl
    | 3 => rfl
    | i + 4 => rfl
  | cons x l =>
    refine ⟨cap, hc, h.reB fun i => ?_⟩
    match i with
    | 0 => rfl
    | 1 => rfl
    | 2 => rfl
    | 3 => rfl
    | i + 4 => rfl
def twoL : HL := [(0, .row 73 (.lst (syms [])) false), (1, .orow 34 0 false), (2, .row 52 (.lst (syms [(26, .chan (some 1))])) false), (3, .mrow 34 0 false)]
def twoA (s : St) : HL := [(0, .row 73 (.lst (cells s (lineV 1 s.line))) false), (1, .row 34 (.lst (encL s.line)) false), (2, .row 52 (.lst (cells s (lvR 3 s.line))) false), (3, lineO s.line)]
def twoB0 (t : St) : HL := [(0, .row 73 (.lst (cells t (lineV 4 t.line))) false), (2, .row 52 (.lst (cells t (lvR 5 t.line))) false), (4, .row 34 (.lst (encL t.line)) false), (5, lineO t.line)]
def twoB (t : St) (o : List Ord) : HL := twoB0 t ++ [(6, outO o), (7, outO o)]
def twoD (t : St) (o : List Ord) : HL := twoB t o ++ [(1, .dead), (3, .dead)]
def eHe (args : List Value) (c i : Nat) : Entry := { args := args, c := c, foots := [⟨2, 0, false, rowR [(26, .chan (some 1))], rowR [(26, .chan (some 1))]⟩, ⟨3, 1, false, mL 0, mL 0⟩], news := [], res := sv i }
def eDp (args : List Value) (c i0 k j : Nat) : Entry := { args := args, c := c, foots := [⟨0, 0, false, rowX [], .row 73 (.lst (symsT i0 k)) false⟩, ⟨1, 1, false, .orow 34 0 false, .dead⟩], news := [(3, .orow 34 j false), (2, .mrow 45 (j + 1) false)], res := .chan (some (k + 1)) }
def eDr (args : List Value) (c i0 k j : Nat) : Entry := { args := args, c := c, foots := [⟨2, 0, false, rowR [(26, .chan (some 1))], .row 52 (.lst (symsT i0 k)) false⟩, ⟨3, 1, false, mL 0, .dead⟩], news := [(3, mL j), (2, .mrow 45 (j + 1) false)], res := .chan (some (k + 1)) }
def stepV (k n m op psn : Int) : Value := .agg #[.int .i64 k, .int .i64 n, .int .i64 m, .int .i64 op, .int .i64 psn]
def DoC (k n m op psn : Int) (s t : St) (o : List Ord) : Prop := ∃ c1 c2, CapOK o c1 ∧ CapOK o c2 ∧ Ctr Try.prog 16 [.pointer (some ⟨0, 0, none⟩), .pointer (some ⟨2, 0, none⟩), stepV k n m op psn] (twoA s) (.tuple #[ordR 6 c1 o, ordR 7 c2 o]) (twoD t o)
theorem DoC.mk {k n m op psn : Int} {s t : St} {o : List Ord} {c1 c2 : Nat} (h : Ctr Try.prog 16 [.pointer (some ⟨0, 0, none⟩), .pointer (some ⟨2, 0, none⟩), stepV k n m op psn] (twoA s) (.tuple #[ordR 6 c1 o, ordR 7 c2 o]) (twoB t o)) (h1 : CapOK o c1) (h2 : CapOK o c2) : DoC k n m op psn s t o :=
  ⟨c1, c2, h1, h2, ((h.addDead 1 rfl).addDead 3 rfl).reB fun i => by unfold twoD; rw [List.append_assoc]; rfl⟩
def opM (s : St) (op : Int) : Int := if op = -1 then s.op else op
section
variable {s t : St} {k n m op psn : Int} {o : List Ord}
theorem do_1 (hk : k = 1) (hp : PC 24 [.int .i64 n, .int .i64 m] s t o) (hr : RC 54 [.int .i64 n, .int .i64 m] s t o) : DoC k n m op psn s t o := by
  obtain ⟨cap, hcap, hP⟩ := hp
  obtain ⟨cap', hcap', hR⟩ := hr
  refine DoC.mk (c1 := cap) (c2 := cap') ?_ hcap hcap'
  · by_cases h0 : ((op) : Int) = (-1)
    · skip
      exact pth (dr s ([iv k, iv n, iv m, iv op, iv psn] ++ tv t) [.v (lineV 1 s.line), olv 3 s.line, .v (lineV 5 t.line), oord 6 cap o, olv 7 t.line, oord 8 cap' o] [encL s.line, encL t.line, encOrds o]) ⟨[kt .eql 2 (sv 43) (iv (-1)), kt .eql 3 (sv 40) (iv 1)], [], []⟩ [(24, [eDp [pt 0 0, sv 41, sv 42] 5 45 2 1]), (54, [eDr [pt 2 0, sv 41, sv 42] 7 45 4 1])] ⟨eT op (-1), eT k 1, trivial⟩ trivial trivial ⟨oe hP, oe (toD hR), trivial⟩ 4 (twoL) [pt 0 0, pt 2 0, .agg #[sv 40, sv 41, sv 42, sv 43, sv 44]] [(0, 0), (2, 2), (5, 4), (7, 5), (6, 6), (8, 7)]
    · skip
      exact pth (dr s ([iv k, iv n, iv m, iv op, iv psn] ++ tv t) [.v (lineV 1 s.line), olv 3 s.line, .v (lineV 5 t.line), oord 6 cap o, olv 7 t.line, oord 8 cap' o] [encL s.line, encL t.line, encOrds o]) ⟨[kf .eql 2 (sv 43) (iv (-1)), kt .eql 3 (sv 40) (iv 1)], [], []⟩ [(24, [eDp [pt 0 0, sv 41, sv 42] 5 45 2 1]), (54, [eDr [pt 2 0, sv 41, sv 42] 7 45 4 1])] ⟨eF op (-1), eT k 1, trivial⟩ trivial trivial ⟨oe hP, oe (toD hR), trivial⟩ 4 (twoL) [pt 0 0, pt 2 0, .agg #[sv 40, sv 41, sv 42, sv 43, sv 44]] [(0, 0), (2, 2), (5, 4), (7, 5), (6, 6), (8, 7)]
theorem do_2 (hk : k = 2) (hp : PC 25 [.int .i64 n] s t o) (hr : RC 55 [.agg #[.int .i64 n, .int .i64 3]] s t o) : DoC k n m op psn s t o := by
  obtain ⟨cap, hcap, hP⟩ := hp
  obtain ⟨cap', hcap', hR⟩ := hr
  refine DoC.mk (c1 := cap) (c2 := cap') ?_ hcap hcap'
  · by_cases h0 : ((op) : Int) = (-1)
    · skip
      exact pth (dr s ([iv k, iv n, iv m, iv op, iv psn] ++ tv t) [.v (lineV 1 s.line), olv 3 s.line, .v (lineV 5 t.line), oord 6 cap o, olv 7 t.line, oord 8 cap' o] [encL s.line, encL t.line, encOrds o]) ⟨[kt .eql 2 (sv 43) (iv (-1)), kf .eql 3 (sv 40) (iv 1), kt .eql 3 (sv 40) (iv 2)], [], []⟩ [(25, [eDp [pt 0 0, sv 41] 5 45 2 1]), (55, [eDr [pt 2 0, .agg #[sv 41, iv 3]] 7 45 4 1])] ⟨eT op (-1), eF k 1, eT k 2, trivial⟩ trivial trivial ⟨oe hP, oe (toD hR), trivial⟩ 4 (twoL) [pt 0 0, pt 2 0, .agg #[sv 40, sv 41, sv 42, sv 43, sv 44]] [(0, 0), (2, 2), (5, 4), (7, 5), (6, 6), (8, 7)]
    · skip
      exact pth (dr s ([iv k, iv n, iv m, iv op, iv psn] ++ tv t) [.v (lineV 1 s.line), olv 3 s.line, .v (lineV 5 t.line), oord 6 cap o, olv 7 t.line, oord 8 cap' o] [encL s.line, encL t.line, encOrds o]) ⟨[kf .eql 2 (sv 43) (iv (-1)), kf .eql 3 (sv 40) (iv 1), kt .eql 3 (sv 40) (iv 2)], [], []⟩ [(25, [eDp [pt 0 0, sv 41] 5 45 2 1]), (55, [eDr [pt 2 0, .agg #[sv 41, iv 3]] 7 45 4 1])] ⟨eF op (-1), eF k 1, eT k 2, trivial⟩ trivial trivial ⟨oe hP, oe (toD hR), trivial⟩ 4 (twoL) [pt 0 0, pt 2 0, .agg #[sv 40, sv 41, sv 42, sv 43, sv 44]] [(0, 0), (2, 2), (5, 4), (7, 5), (6, 6), (8, 7)]
theorem do_3 (hk : k = 3) (hp : PC 30 [.int .i64 n, .int .i64 (opM s op)] s t o) (hr : RC 56 [.int .i64 n, .int .i64 (opM s op)] s t o) : DoC k n m op psn s t o := by
  obtain ⟨cap, hcap, hP⟩ := hp
  obtain ⟨cap', hcap', hR⟩ := hr
  refine DoC.mk (c1 := cap) (c2 := cap') ?_ hcap hcap'
  · by_cases h0 : ((op) : Int) = (-1)
    · simp only [opM, if_pos h0] at hP hR
      exact pth (dr s ([iv k, iv n, iv m, iv op, iv psn] ++ tv t) [.v (lineV 1 s.line), olv 3 s.line, .v (lineV 5 t.line), oord 6 cap o, olv 7 t.line, oord 8 cap' o] [encL s.line, encL t.line, encOrds o]) ⟨[kt .eql 2 (sv 43) (iv (-1)), kf .eql 3 (sv 40) (iv 1), kf .eql 3 (sv 40) (iv 2), kt .eql 3 (sv 40) (iv 3)], [], []⟩ [(30, [eDp [pt 0 0, sv 41, sv 39] 5 45 2 1]), (56, [eDr [pt 2 0, sv 41, sv 39] 7 45 4 1])] ⟨eT op (-1), eF k 1, eF k 2, eT k 3, trivial⟩ trivial trivial ⟨oe hP, oe (toD hR), trivial⟩ 4 (twoL) [pt 0 0, pt 2 0, .agg #[sv 40, sv 41, sv 42, sv 43, sv 44]] [(0, 0), (2, 2), (5, 4), (7, 5), (6, 6), (8, 7)]
    · simp only [opM, if_neg h0] at hP hR
      exact pth (dr s ([iv k, iv n, iv m, iv op, iv psn] ++ tv t) [.v (lineV 1 s.line), olv 3 s.line, .v (lineV 5 t.line), oord 6 cap o, olv 7 t.line, oord 8 cap' o] [encL s.line, encL t.line, encOrds o]) ⟨[kf .eql 2 (sv 43) (iv (-1)), kf .eql 3 (sv 40) (iv 1), kf .eql 3 (sv 40) (iv 2), kt .eql 3 (sv 40) (iv 3)], [], []⟩ [(30, [eDp [pt 0 0, sv 41, sv 43] 5 45 2 1]), (56, [eDr [pt 2 0, sv 41, sv 43] 7 45 4 1])] ⟨eF op (-1), eF k 1, eF k 2, eT k 3, trivial⟩ trivial trivial ⟨oe hP, oe (toD hR), trivial⟩ 4 (twoL) [pt 0 0, pt 2 0, .agg #[sv 40, sv 41, sv 42, sv 43, sv 44]] [(0, 0), (2, 2), (5, 4), (7, 5), (6, 6), (8, 7)]
theorem do_4 (hk : k = 4) (hp : PC 31 [.int .i64 n, .int .i64 (opM s op)] s t o) (hr : RC 57 [.int .i64 n, .int .i64 (opM s op)] s t o) : DoC k n m op psn s t o := by
  obtain ⟨cap, hcap, hP⟩ := hp
  obtain ⟨cap', hcap', hR⟩ := hr
  refine DoC.mk (c1 := cap) (c2 := cap') ?_ hcap hcap'
  · by_cases h0 : ((op) : Int) = (-1)
    · simp only [opM, if_pos h0] at hP hR
      exact pth (dr s ([iv k, iv n, iv m, iv op, iv psn] ++ tv t) [.v (lineV 1 s.line), olv 3 s.line, .v (lineV 5 t.line), oord 6 cap o, olv 7 t.line, oord 8 cap' o] [encL s.line, encL t.line, encOrds o]) ⟨[kt .eql 2 (sv 43) (iv (-1)), kf .eql 3 (sv 40) (iv 1), kf .eql 3 (sv 40) (iv 2), kf .eql 3 (sv 40) (iv 3), kt .eql 3 (sv 40) (iv 4)], [], []⟩ [(31, [eDp [pt 0 0, sv 41, sv 39] 5 45 2 1]), (57, [eDr [pt 2 0, sv 41, sv 39] 7 45 4 1])] ⟨eT op (-1), eF k 1, eF k 2, eF k 3, eT k 4, trivial⟩ trivial trivial ⟨oe hP, oe (toD hR), trivial⟩ 4 (twoL) [pt 0 0, pt 2 0, .agg #[sv 40, sv 41, sv 42, sv 43, sv 44]] [(0, 0), (2, 2), (5, 4), (7, 5), (6, 6), (8, 7)]
    · simp only [opM, if_neg h0] at hP hR
      exact pth (dr s ([iv k, iv n, iv m, iv op, iv psn] ++ tv t) [.v (lineV 1 s.line), olv 3 s.line, .v (lineV 5 t.line), oord 6 cap o, olv 7 t.line, oord 8 cap' o] [encL s.line, encL t.line, encOrds o]) ⟨[kf .eql 2 (sv 43) (iv (-1)), kf .eql 3 (sv 40) (iv 1), kf .eql 3 (sv 40) (iv 2), kf .eql 3 (sv 40) (iv 3), kt .eql 3 (sv 40) (iv 4)], [], []⟩ [(31, [eDp [pt 0 0, sv 41, sv 43] 5 45 2 1]), (57, [eDr [pt 2 0, sv 41, sv 43] 7 45 4 1])] ⟨eF op (-1), eF k 1, eF k 2, eF k 3, eT k 4, trivial⟩ trivial trivial ⟨oe hP, oe (toD hR), trivial⟩ 4 (twoL) [pt 0 0, pt 2 0, .agg #[sv 40, sv 41, sv 42, sv 43, sv 44]] [(0, 0), (2, 2), (5, 4), (7, 5), (6, 6), (8, 7)]
theorem do_5 (hk : k = 5) (hp : PC 26 [.int .i64 n, .int .i64 (heldM s n op)] s t o) (hr : RC 59 [.int .i64 n, .int .i64 (heldM s n op)] s t o) : DoC k n m op psn s t o := by
  obtain ⟨cap, hcap, hP⟩ := hp
  obtain ⟨cap', hcap', hR⟩ := hr
  refine DoC.mk (c1 := cap) (c2 := cap') ?_ hcap hcap'
  · by_cases h0 : ((op) : Int) = (-1)
    · skip
      exact pth (dr s ([iv k, iv n, iv m, iv op, iv psn, iv (heldM s n op)] ++ tv t ++ [iv (heldM s n op)]) [.v (lineV 1 s.line), olv 3 s.line, .v (lineV 5 t.line), oord 6 cap o, olv 7 t.line, oord 8 cap' o] [encL s.line, encL t.line, encOrds o]) ⟨[kt .eql 2 (sv 43) (iv (-1)), kf .eql 3 (sv 40) (iv 1), kf .eql 3 (sv 40) (iv 2), kf .eql 3 (sv 40) (iv 3), kf .eql 3 (sv 40) (iv 4), kt .eql 3 (sv 40) (iv 5)], [], []⟩ [(58, [eHe [pt 2 0, .agg #[sv 40, sv 41, sv 42, sv 43, sv 44]] 5 45, eHe [pt 2 0, .agg #[sv 40, sv 41, sv 42, sv 43, sv 44]] 7 86]), (26, [eDp [pt 0 0, sv 41, sv 45] 5 46 2 1]), (59, [eDr [pt 2 0, sv 41, sv 86] 7 46 4 1])] ⟨eT op (-1), eF k 1, eF k 2, eF k 3, eF k 4, eT k 5, trivial⟩ trivial trivial ⟨two_entry (entOK (held_ctr s k n m op psn) rfl (by kernel_rfl)) (entOK (held_ctr s k n m op psn) rfl (by kernel_rfl)), oe hP, oe (toD hR), trivial⟩ 4 (twoL) [pt 0 0, pt 2 0, .agg #[sv 40, sv 41, sv 42, sv 43, sv 44]] [(0, 0), (2, 2), (5, 4), (7, 5), (6, 6), (8, 7)]
    · skip
      exact pth (dr s ([iv k, iv n, iv m, iv op, iv psn, iv (heldM s n op)] ++ tv t ++ [iv (heldM s n op)]) [.v (lineV 1 s.line), olv 3 s.line, .v (lineV 5 t.line), oord 6 cap o, olv 7 t.line, oord 8 cap' o] [encL s.line, encL t.line, encOrds o]) ⟨[kf .eql 2 (sv 43) (iv (-1)), kf .eql 3 (sv 40) (iv 1), kf .eql 3 (sv 40) (iv 2), kf .eql 3 (sv 40) (iv 3), kf .eql 3 (sv 40) (iv 4), kt .eql 3 (sv 40) (iv 5)], [], []⟩ [(58, [eHe [pt 2 0, .agg #[sv 40, sv 41, sv 42, sv 43, sv 44]] 5 45, eHe [pt 2 0, .agg #[sv 40, sv 41, sv 42, sv 43, sv 44]] 7 86]), (26, [eDp [pt 0 0, sv 41, sv 45] 5 46 2 1]), (59, [eDr [pt 2 0, sv 41, sv 86] 7 46 4 1])] ⟨eF op (-1), eF k 1, eF k 2, eF k 3, eF k 4, eT k 5, trivial⟩ trivial trivial ⟨two_entry (entOK (held_ctr s k n m op psn) rfl (by kernel_rfl)) (entOK (held_ctr s k n m op psn) rfl (by kernel_rfl)), oe hP, oe (toD hR), trivial⟩ 4 (twoL) [pt 0 0, pt 2 0, .agg #[sv 40, sv 41, sv 42, sv 43, sv 44]] [(0, 0), (2, 2), (5, 4), (7, 5), (6, 6), (8, 7)]
theorem do_6 (hk : k = 6) (hp : PC 32 [.int .i64 n, .int .i64 (heldM s n op), .int .i64 psn] s t o) (hr : RC 60 [.int .i64 n, .int .i64 (heldM s n op), .int .i64 psn] s t o) : DoC k n m op psn s t o := by
  obtain ⟨cap, hcap, hP⟩ := hp
  obtain ⟨cap', hcap', hR⟩ := hr
  refine DoC.mk (c1 := cap) (c2 := cap') ?_ hcap hcap'
  · by_cases h0 : ((op) : Int) = (-1)
    · skip
      exact pth (dr s ([iv k, iv n, iv m, iv op, iv psn, iv (heldM s n op)] ++ tv t ++ [iv (heldM s n op)]) [.v (lineV 1 s.line), olv 3 s.line, .v (lineV 5 t.line), oord 6 cap o, olv 7 t.line, oord 8 cap' o] [encL s.line, encL t.line, encOrds o]) ⟨[kt .eql 2 (sv 43) (iv (-1)), kf .eql 3 (sv 40) (iv 1), kf .eql 3 (sv 40) (iv 2), kf .eql 3 (sv 40) (iv 3), kf .eql 3 (sv 40) (iv 4), kf .eql 3 (sv 40) (iv 5), kt .eql 3 (sv 40) (iv 6)], [], []⟩ [(58, [eHe [pt 2 0, .agg #[sv 40, sv 41, sv 42, sv 43, sv 44]] 5 45, eHe [pt 2 0, .agg #[sv 40, sv 41, sv 42, sv 43, sv 44]] 7 86]), (32, [eDp [pt 0 0, sv 41, sv 45, sv 44] 5 46 2 1]), (60, [eDr [pt 2 0, sv 41, sv 86, sv 44] 7 46 4 1])] ⟨eT op (-1), eF k 1, eF k 2, eF k 3, eF k 4, eF k 5, eT k 6, trivial⟩ trivial trivial ⟨two_entry (entOK (held_ctr s k n m op psn) rfl (by kernel_rfl)) (entOK (held_ctr s k n m op psn) rfl (by kernel_rfl)), oe hP, oe (toD hR), trivial⟩ 4 (twoL) [pt 0 0, pt 2 0, .agg #[sv 40, sv 41, sv 42, sv 43, sv 44]] [(0, 0), (2, 2), (5, 4), (7, 5), (6, 6), (8, 7)]
    · skip
      exact pth (dr s ([iv k, iv n, iv m, iv op, iv psn, iv (heldM s n op)] ++ tv t ++ [iv (heldM s n op)]) [.v (lineV 1 s.line), olv 3 s.line, .v (lineV 5 t.line), oord 6 cap o, olv 7 t.line, oord 8 cap' o] [encL s.line, encL t.line, encOrds o]) ⟨[kf .eql 2 (sv 43) (iv (-1)), kf .eql 3 (sv 40) (iv 1), kf .eql 3 (sv 40) (iv 2), kf .eql 3 (sv 40) (iv 3), kf .eql 3 (sv 40) (iv 4), kf .eql 3 (sv 40) (iv 5), kt .eql 3 (sv 40) (iv 6)], [], []⟩ [(58, [eHe [pt 2 0, .agg #[sv 40, sv 41, sv 42, sv 43, sv 44]] 5 45, eHe [pt 2 0, .agg #[sv 40, sv 41, sv 42, sv 43, sv 44]] 7 86]), (32, [eDp [pt 0 0, sv 41, sv 45, sv 44] 5 46 2 1]), (60, [eDr [pt 2 0, sv 41, sv 86, sv 44] 7 46 4 1])] ⟨eF op (-1), eF k 1, eF k 2, eF k 3, eF k 4, eF k 5, eT k 6, trivial⟩ trivial trivial ⟨two_entry (entOK (held_ctr s k n m op psn) rfl (by kernel_rfl)) (entOK (held_ctr s k n m op psn) rfl (by kernel_rfl)), oe hP, oe (toD hR), trivial⟩ 4 (twoL) [pt 0 0, pt 2 0, .agg #[sv 40, sv 41, sv 42, sv 43, sv 44]] [(0, 0), (2, 2), (5, 4), (7, 5), (6, 6), (8, 7)]
theorem do_7 (hk : k ≠ 1 ∧ k ≠ 2 ∧ k ≠ 3 ∧ k ≠ 4 ∧ k ≠ 5 ∧ k ≠ 6) : DoC k n m op psn s s [] := by
  refine DoC.mk (c1 := INF) (c2 := INF) (ctr_ghost (ctr_ghost (B := twoB0 s) ?_ 6 45 false rfl rfl) 7 45 false rfl rfl) (.inl rfl) (.inl rfl)
  · by_cases h0 : ((op) : Int) = (-1)
    · skip
      exact pth (dr s [iv k, iv n, iv m, iv op, iv psn] [.v (lineV 1 s.line), olv 3 s.line] [encL s.line]) ⟨[kt .eql 2 (sv 43) (iv (-1)), kf .eql 3 (sv 40) (iv 1), kf .eql 3 (sv 40) (iv 2), kf .eql 3 (sv 40) (iv 3), kf .eql 3 (sv 40) (iv 4), kf .eql 3 (sv 40) (iv 5), kf .eql 3 (sv 40) (iv 6)], [], []⟩ [] ⟨eT op (-1), eF k 1, eF k 2, eF k 3, eF k 4, eF k 5, eF k 6, trivial⟩ trivial trivial trivial 4 (twoL) [pt 0 0, pt 2 0, .agg #[sv 40, sv 41, sv 42, sv 43, sv 44]] [(0, 0), (2, 2), (1, 4), (3, 5)]
    · skip
      exact pth (dr s [iv k, iv n, iv m, iv op, iv psn] [.v (lineV 1 s.line), olv 3 s.line] [encL s.line]) ⟨[kf .eql 2 (sv 43) (iv (-1)), kf .eql 3 (sv 40) (iv 1), kf .eql 3 (sv 40) (iv 2), kf .eql 3 (sv 40) (iv 3), kf .eql 3 (sv 40) (iv 4), kf .eql 3 (sv 40) (iv 5), kf .eql 3 (sv 40) (iv 6)], [], []⟩ [] ⟨eF op (-1), eF k 1, eF k 2, eF k 3, eF k 4, eF k 5, eF k 6, trivial⟩ trivial trivial trivial 4 (twoL) [pt 0 0, pt 2 0, .agg #[sv 40, sv 41, sv 42, sv 43, sv 44]] [(0, 0), (2, 2), (1, 4), (3, 5)]
end
def doM (s : St) (k n m op psn : Int) : St × List Ord :=
  if k = 1 then wantM s n m else if k = 2 then cleanM s n else if k = 3 then goneMM s n (opM s op) else if k = 4 then gotM s n (opM s op) else if k = 5 then relM s n (heldM s n op) else if k = 6 then wroteM s n (heldM s n op) psn else (s, [])
theorem do_ctr {s : St} (hp : P2 s) (hb : s.op + s.line.length ≤ 900) (k n m op psn : Int) : DoC k n m op psn s (doM s k n m op psn).1 (doM s k n m op psn).2 ∧ P2 (doM s k n m op psn).1 ∧ StepR s (doM s k n m op psn) := by
  unfold doM
  by_cases h1 : k = 1
  · rw [if_pos h1]
    have h := want_ctr (n := n) (m := m) hp.post hb
    exact ⟨do_1 h1 h.1.toPC (wantR_ctr hp.post hb), ⟨h.2.post, want_K hp.kd⟩, h.2⟩
  rw [if_neg h1]
  by_cases h2 : k = 2
  · rw [if_pos h2]
    have h := clean_ctr (n := n) hp.post hb
    exact ⟨do_2 h2 h.1.toPC (cleanR_ctr hp.post hb), ⟨h.2.post, clean_K hp.kd⟩, h.2⟩
  rw [if_neg h2]
  by_cases h3 : k = 3
  · rw [if_pos h3]
    have h := gone_ctr (n := n) (op := opM s op) hp.post hb
    exact ⟨do_3 h3 h.1.toPC (goneR_ctr hp hb), ⟨h.2.post, gone_K hp.kd⟩, h.2⟩
  rw [if_neg h3]
  by_cases h4 : k = 4
  · rw [if_pos h4]
    have h := got_ctr (n := n) (op := opM s op) hp.post hb
    exact ⟨do_4 h4 h.1.toPC (gotR_ctr hp hb), ⟨h.2.post, got_K hp.kd⟩, h.2⟩
  rw [if_neg h4]
  by_cases h5 : k = 5
  · rw [if_pos h5]
    have h := rel_ctr (n := n) (op := heldM s n op) hp.post hb
    exact ⟨do_5 h5 h.1.toPC (relR_ctr hp hb), ⟨h.2.post, rel_K hp.kd⟩, h.2⟩
  rw [if_neg h5]
  by_cases h6 : k = 6
  · rw [if_pos h6]
    have h := wrote_ctr (n := n) (op := heldM s n op) (psn := psn) hp.post hb
    exact ⟨do_6 h6 h.1.toPC (wroteR_ctr hp hb), ⟨h.2.post, wrote_K hp.kd⟩, h.2⟩
  rw [if_neg h6]
  exact ⟨do_7 ⟨h1, h2, h3, h4, h5, h6⟩, hp, StepR.keep hp.post⟩
end Go.Proofs.Ytjpgnjaobfbojaa
namespace Go.Proofs.Ytjpgnjaobfbojaa
open Go.Sx
set_option maxRecDepth 20000
abbrev oint (id : Nat) (l : List Int) : OV := .m id l.length INF
theorem listG_of {g : FuncId} {f : Nat → Bool} {l : List Int} (h : Ctr Try.prog g [bitsV f] [] (outI l) (outIH l)) : Ctr Try.prog g [bitsV f] [] (mSl 2 l.length INF) [(2, rowOr 3 (encI l) false)] := by
  cases l with
  | nil => exact ctr_ghost h 2 3 false rfl rfl
  | cons x l => exact h
theorem list52G (f : Nat → Bool) : Ctr Try.prog 52 [bitsV f] [] (mSl 2 (listTo f 8).length INF) [(2, rowOr 3 (encI (listTo f 8)) false)] := listG_of (list52_ctr f)
def eLs (b c j k : Nat) : Entry := { args := [.agg (v8 b)], c := c, foots := [], news := [(2, .mrow 3 j false)], res := .chan (some k) }
theorem asEqS {d : Den} {P : Program} {t e : TypeId} {i n c : Nat} {a : Addr} (hu : P.underlying t = some (.slice e)) (ho : d.o i = .slice (some a) n c) : @AK.Ok d P (.bin .eql t (.chan (some i)) (.slice none 0 0)) (.bool false) := asEqN hu ho
def lineA0 : HL := [(1, .row 34 (.lst []) true)]
def lineA : HL := [(1, .orow 34 0 true)]
def eCl (a c j k : Nat) : Entry := { args := [.slice (some ⟨a, 0, none⟩) 0 0, .chan (some 0)], c := c, foots := [⟨a, 0, true, .row 34 (.lst []) false, .row 34 (.lst []) false⟩, ⟨1, 1, true, .orow 34 0 true, .orow 34 0 true⟩], news := [(2, .orow 34 j false)], res := .chan (some k) }
theorem app_clone (x : Int × Int) (l : List (Int × Int)) (h : (x :: l).length < 1000000) : AppC Try.prog [31, 31] [.slice (some ⟨0, 0, none⟩) 0 0, .slice (some ⟨1, 0, none⟩) (x :: l).length INF] [(0, .row 34 (.lst []) true), (1, .row 34 (.lst (encL (x :: l))) true)] (.slice (some ⟨2, 0, none⟩) (x :: l).length INF) [(2, .row 34 (.lst (encL (x :: l))) false)] := by
  have h := AppC.cap (P := Try.prog) elemW (bl := []) (l := encL (x :: l)) (n := 0) (m := (x :: l).length) (off := 0) (cp := INF) (T := 34) (Tb := 34) rfl rfl (by simp) (by rw [encL_len]; simp only [List.length_cons]; omega) (encL_plain _) (by omega) (by unfold HALF; omega)
  have e : [] ++ ((encL (x :: l)).drop 0).take ((x :: l).length * 2) = encL (x :: l) := by
    rw [List.nil_append, List.drop_zero, List.take_of_length_le (by rw [encL_len]; omega)]
  rw [e, Nat.zero_add] at h
  exact h
theorem clone_nil : Ctr Try.prog 53 [lineV 1 []] [(1, .row 34 (.lst (encL [])) true)] (lineV 2 []) [(2, .row 34 (.lst (encL [])) false)] := by
  · skip
    exact pth (dr newS [] [.v (.bool false)] []) ⟨[], [], []⟩ [] trivial trivial trivial trivial 2 (lineA0) [.slice (some ⟨1, 0, none⟩) 0 0] [(2, 2)]
theorem clone_cons (x : Int × Int) (l : List (Int × Int)) (hl : (x :: l).length < 1000000) : Ctr Try.prog 53 [lineV 1 (x :: l)] [(1, .row 34 (.lst (encL (x :: l))) true)] (lineV 2 (x :: l)) [(2, .row 34 (.lst (encL (x :: l))) false)] := by
  · skip
    exact pth (dr newS [] [.v (lineV 1 (x :: l)), .v (lineV 3 (x :: l))] [encL (x :: l), encL (x :: l)]) ⟨[kf .eql 31 (ch 0) (.slice none 0 0)], [], [([31, 31], eCl 2 3 1 1)]⟩ [] ⟨asEqS u31 rfl, trivial⟩ trivial ⟨ap (app_clone x l hl), trivial⟩ trivial 2 (lineA) [ch 0] [(3, 2)]
theorem clone_ctr (l : List (Int × Int)) (hl : l.length < 1000000) : Ctr Try.prog 53 [lineV 1 l] [(1, .row 34 (.lst (encL l)) true)] (lineV 2 l) [(2, .row 34 (.lst (encL l)) false)] := by
  cases l with
  | nil => exact clone_nil
  | cons x l => exact clone_cons x l hl
def bkG (i j : Nat) (lv : Value) (s : St) : Value := .agg #[.int .i64 s.x, .int .i64 s.owner, mSl i (listTo s.sh 8).length INF, mSl j (listTo s.pa 8).length INF, .int .i64 (s.ops 0), .int .i64 (s.ops 1), .int .i64 (s.ops 2), .int .i64 (s.ops 3), .int .i64 (s.ops 4), .int .i64 (s.ops 5), .int .i64 (s.ops 6), .int .i64 (s.ops 7), lv, .int .i64 s.hn, .int .i64 s.hk, .bool (s.wt != 0), .int .i64 s.op]
def setO (f : Nat → Bool) (ro : Bool) : AObj := rowOr 3 (encI (listTo f 8)) ro
def bkH (s : St) (lo : AObj) : HL := [(2, setO s.sh false), (3, setO s.pa false), (4, lo)]
def eClE (c j k : Nat) : Entry := { args := [.chan (some 0)], c := c, foots := [⟨1, 1, true, .orow 34 0 false, .orow 34 0 false⟩], news := [(2, .orow 34 j false)], res := .chan (some k) }
theorem bookG_ctr {s : St} (hl : s.line.length < 1000000) : Ctr Try.prog 15 lockP (lockA 1 s) (bkG 2 3 (lineV 4 s.line) s) (lockA 1 s ++ bkH s (.row 34 (.lst (encL s.line)) false)) := by
  · skip
    exact pth (dr s [.bool (s.wt != 0)] [.v (lineV 1 s.line), oint 3 (listTo s.sh 8), oint 4 (listTo s.pa 8), .v (lineV 5 s.line)] [encL s.line, encI (listTo s.sh 8), encI (listTo s.pa 8), encL s.line]) ⟨[kt .neq 31 (ch 0) (.slice none 0 0), (.bin .neq 71 (sv 29) (iv 0), sv 40)], [], []⟩ [(52, [eLs 2 3 1 1, eLs 10 4 2 2]), (53, [eClE 5 3 3])] ⟨asNeS u31 rfl, asP (u := .bool (s.wt != 0)) (by kernel_rfl) (by kernel_rfl), trivial⟩ trivial trivial ⟨two_entry (entOK (list52G s.sh) rfl (by kernel_rfl)) (entOK (list52G s.pa) rfl (by kernel_rfl)), oe (clone_ctr s.line hl), trivial⟩ 2 (lockL []) lockP [(0, 0), (1, 1), (3, 2), (4, 3), (5, 4)]
theorem mSl_pos {id n c : Nat} (h : 0 < n) : mSl id n c = .slice (some ⟨id, 0, none⟩) n c := by cases n with
  | zero => omega
  | succ n => rfl
theorem asIxaM {d : Den} {P : Program} {t el : TypeId} {n len c a i r b off : Nat} {fk : FloatKind} {k : IntKind} {q : Int} (hu : P.underlying t = some (.slice el)) (hn : sizeB P el = some n) (ho : d.o a = mSl b len c) (hv : d.v i = .int k q) (h1 : 0 ≤ q) (h2 : q < len)
    (hr : d.o r = .pointer (some ⟨b, off, none⟩)) (hoff : off = 0 + q.toNat * n) : @AK.Ok d P (.ixa t (.chan (some a)) (.float fk i)) (.chan (some r)) := asIxa hu hn (ho.trans (mSl_pos (by omega))) hv h1 h2 hr hoff
section
variable {l m : List Int} {i : Nat} {x y : Int}
end
end Go.Proofs.Ytjpgnjaobfbojaa
namespace Go.Proofs.Ytjpgnjaobfbojaa
open Go.Sx
set_option maxRecDepth 20000
structure Stp where
  k : Int
  n : Int
  m : Int
  op : Int
  psn : Int
instance : Inhabited Stp := ⟨⟨0, 0, 0, 0, 0⟩⟩
def encS : List Stp → List Value
  | [] => []
  | x :: l => .int .i64 x.k :: .int .i64 x.n :: .int .i64 x.m :: .int .i64 x.op :: .int .i64 x.psn :: encS l
theorem encS_plain : ∀ l : List Stp, (encS l).all plainS = true
  | [] => rfl
  | _ :: l => encS_plain l
theorem encS_len : ∀ l : List Stp, (encS l).length = l.length * 5
  | [] => rfl
  | _ :: l => by simp only [encS, List.length_cons, encS_len l]; omega
theorem encS_at : ∀ (l : List Stp) (i : Nat) (x : Stp), l[i]? = some x → ((encS l).drop (i * 5)).take 5 = [.int .i64 x.k, .int .i64 x.n, .int .i64 x.m, .int .i64 x.op, .int .i64 x.psn]
  | [], i, x, h => by simp at h
  | y :: l, 0, x, h => by simp at h; subst h; rfl
  | y :: l, i + 1, x, h => by
    simp only [List.getElem?_cons_succ] at h
    rw [show (i + 1) * 5 = i * 5 + 5 from by omega]
    exact encS_at l i x h
def stAt (l : List Stp) (i : Nat) : Stp := l[i]?.getD default
theorem st_len {l : List Stp} {i : Nat} (h : i < l.length) : i * 5 + 5 ≤ (encS l).length := by rw [encS_len]; omega
theorem st_row {l : List Stp} {i : Nat} (h : i < l.length) : ((encS l).drop (i * 5)).take 5 = [.int .i64 (stAt l i).k, .int .i64 (stAt l i).n, .int .i64 (stAt l i).m, .int .i64 (stAt l i).op, .int .i64 (stAt l i).psn] := by
  have hget : l[i]? = some l[i] := by simp [h]
  have : stAt l i = l[i] := by unfold stAt; rw [hget]; rfl
  rw [this]
  exact encS_at l i _ hget
noncomputable abbrev ds (s : St) (more : List Value) (opq : List OV) (rows : List (List Value)) (hm : more.all plainS = true := by rfl) (ho : opq.all OV.ok = true := by rfl) (hr : ∀ r ∈ rows, r.all plainS = true := by repeat first | exact rN | refine rC ?_ ?_ | exact encL_plain _ | exact encOrds_plain _ | exact encI_plain _ | exact encS_plain _) : Den := denR s more hm opq ho rows hr
abbrev stsV (l : List Stp) (cp : Nat) : Value := .slice (some ⟨5, 0, none⟩) l.length cp
theorem u22 : Go.Program.underlying Try.prog 22 = some (.slice 42) := by kernel_rfl
theorem z42 : sizeB Try.prog 42 = some 5 := by kernel_rfl
theorem a42 : aggB Try.prog 42 = some true := by kernel_rfl
def kskip : Nat → List KI → List KI
  | 0, k => k
  | m + 1, .code (.seq a b) :: k => kskip m (.code a :: .code b :: k)
  | m + 1, .code (.block id b) :: k => kskip m (.code b :: .blk id :: k)
  | m + 1, .code (.loop b) :: k => kskip m (.code b :: .lp b :: k)
  | m + 1, .code (.cond _ a b) :: k => bif hasLoop a then kskip m (.code a :: k) else bif hasLoop b then kskip m (.code b :: k) else kskip m k
  | m + 1, .code _ :: k => kskip m k
  | m + 1, .blk _ :: k => kskip m k
  | m + 1, .lp b :: k => kskip m (.code b :: .lp b :: k)
  | _ + 1, [] => []
def eKn (c : Nat) : Entry := { args := [], c := c, foots := [], news := [], res := .bool true }
def newN : List Value := cells newS (.slice none 0 0)
def newL (l : Nat) : List Value := cells newS (.slice (some ⟨l, 0, none⟩) 0 0)
theorem newR_ctr : Ctr Try.prog 14 [] [] (.pointer (some ⟨0, 0, none⟩)) (rlock 1 newS) :=
  ctr_ghost (B := bookR newS (.slice none 0 0) []) (Ctr.path mixed (denR newS [] rfl [] rfl [] no_rows) ⟨[], [], []⟩ [] trivial trivial trivial trivial (N := 200) (c0 := 0) (A0 := []) (args0 := []) (τ := [(0, 0)]) (ros := []) (by kernel_rfl) (by kernel_rfl) (by kernel_rfl)) 1 34 false rfl rfl
def eNewP (c : Nat) : Entry := { args := [], c := c, foots := [], news := [(0, .row 73 (.lst (newL (c + 1))) false), (1, .row 34 (.lst []) false)], res := .pointer (some ⟨c, 0, none⟩) }
def eNewR (c : Nat) : Entry := { args := [], c := c, foots := [], news := [(0, .row 52 (.lst newN) false), (1, .mrow 34 0 false)], res := .pointer (some ⟨c, 0, none⟩) }
def eDo (args : List Value) (c a la b lb : Nat) (ro lo ro2 lo2 : AObj) (i0 k j : Nat) : Entry := { args := args, c := c, foots := [⟨a, 0, false, ro, .row 73 (.lst (symsT i0 k)) false⟩, ⟨la, 1, false, lo, .dead⟩, ⟨b, 2, false, ro2, .row 52 (.lst (symsT i0 (k + 1))) false⟩, ⟨lb, 3, false, lo2, .dead⟩], news := [(4, .orow 34 j false), (5, mL j), (6, .mrow 45 (j + 1) false), (7, .mrow 45 (j + 1) false)], res := .tuple #[.chan (some (k + 2)), .chan (some (k + 3))] }
def eId (c a li : Nat) (ro : AObj) (i : Nat) : Entry := { args := [.pointer (some ⟨a, 0, none⟩)], c := c, hids := [(li, 1)], foots := [⟨a, 0, false, ro, ro⟩], news := [], res := sv i }
def eHo (args : List Value) (c a li : Nat) (ro lo : AObj) (i i' : Nat) : Entry := { args := args, c := c, foots := [⟨a, 0, false, ro, ro⟩, ⟨li, 1, false, lo, lo⟩], news := [], res := .tuple #[sv i, sv i'] }
def bkT (i0 kk b : Nat) : Value := .agg #[sv i0, sv (i0 + 1), .chan (some kk), .chan (some (kk + 1)), sv (i0 + 18), sv (i0 + 19), sv (i0 + 20), sv (i0 + 21), sv (i0 + 22), sv (i0 + 23), sv (i0 + 24), sv (i0 + 25), .chan (some (kk + 2)), sv (i0 + 27), sv (i0 + 28), sv b, sv (i0 + 39)]
def eBk (c a li : Nat) (ro lo : AObj) (i0 kk b j1 j2 : Nat) (nl : AObj) : Entry := { args := [.pointer (some ⟨a, 0, none⟩)], c := c, foots := [⟨a, 0, false, ro, ro⟩, ⟨li, 1, false, lo, lo⟩], news := [(2, .mrow 3 j1 false), (3, .mrow 3 j2 false), (4, nl)], res := bkT i0 kk b }
def twoE (t : St) (o : List Ord) : HL := [(0, .row 73 (.lst (cells t (lineV 4 t.line))) false), (1, .dead), (2, .row 52 (.lst (cells t (lvR 5 t.line))) false), (3, .dead), (4, .row 34 (.lst (encL t.line)) false), (5, lineO t.line), (6, outO o), (7, outO o)]
theorem DoC.get {k n m op psn : Int} {s t : St} {o : List Ord} (h : DoC k n m op psn s t o) : ∃ c1 c2, CapOK o c1 ∧ CapOK o c2 ∧ Ctr Try.prog 16 [.pointer (some ⟨0, 0, none⟩), .pointer (some ⟨2, 0, none⟩), stepV k n m op psn] (twoA s) (.tuple #[ordR 6 c1 o, ordR 7 c2 o]) (twoE t o) := by
  obtain ⟨c1, c2, h1, h2, h⟩ := h
  refine ⟨c1, c2, h1, h2, h.reB fun i => ?_⟩
  match i with
  | 0 => rfl
  | 1 => rfl
  | 2 => rfl
  | 3 => rfl
  | 4 => rfl
  | 5 => rfl
  | 6 => rfl
  | 7 => rfl
  | i + 8 => rfl
theorem newS_P2 : P2 newS := ⟨⟨⟨by simp [newS], by simp [newS], by simp [newS], by simp [newS], by simp [newS]⟩, fun _ => ⟨rfl, rfl⟩, fun h => absurd rfl h⟩, Kd.idle rfl⟩
end Go.Proofs.Ytjpgnjaobfbojaa
namespace Go.Proofs.Ytjpgnjaobfbojaa
open Go.Sx
theorem fit_cap (e : EI) {cap : Nat} (h : e.cap = cap) : capOf e (if cap < HALF then cap else INF) = cap := by
  unfold capOf
  by_cases hc : cap < HALF
  · rw [if_pos hc, if_pos hc]
  · rw [if_neg hc, if_neg (by decide +kernel), Nat.sub_self, Nat.sub_zero]; exact h
theorem add_none {a : Addr} (h : a.spot = none) (n : Nat) : a.add n = ⟨a.block, a.off + n, none⟩ := by
  unfold Addr.add
  by_cases h0 : n = 0
  · rw [if_pos h0]; subst h0; cases a; simp only at h; subst h; rfl
  · rw [if_neg h0]
theorem cell_at {w : World} {a : Addr} {v : Value} (h : w.cell? a = some v) : a.spot = none ∧ ∃ cells T fz, w.heap[a.block]? = some (.cells cells T fz) ∧ cells[a.off]? = some v := by
  unfold World.cell? at h
  split at h
  · rename_i c T fz hc
    split at h
    · cases h
    · rename_i hs
      refine ⟨?_, c, T, fz, hc, h⟩
      cases ha : a.spot with
      | none => rfl
      | some x => rw [ha] at hs; exact absurd rfl hs
  · cases h
theorem call_slice {P : Program} {g : FuncId} {L : List Value} {len cap : Nat} {w : World} {a : Addr} {res : Value} {B : HL} (hl : len ≤ cap) {v0 : Value} (h0 : w.cell? a = some v0) (hL : ∀ k v, L[k]? = some v → w.cell? (a.add k) = some v) (hp : L.all plainS = true)
    (hc : ∀ T, Ctr P g [.slice (some ⟨5, 0, none⟩) len (if cap < HALF then cap else INF)] [(5, .row T (.lst L) true)] res B) :
    Calls P g #[.slice (some a) len cap] w fun e w' => (∃ v' E', e = .returned v' ∧ VR0 E' res v') ∧ Go.RowKit.Below w.heap.size w w' := by
  obtain ⟨hs, cells, T, fz, hb, _⟩ := cell_at h0
  let E : Env := fun i => if i = 5 then some ⟨a.block, a.off, cap⟩ else none
  have hE : ∀ {i : Nat} {e : EI}, E i = some e → i = 5 ∧ e = ⟨a.block, a.off, cap⟩ := fun {i e} h => by
    simp only [E] at h
    split at h
    · rename_i hi; cases h; exact ⟨hi, rfl⟩
    · cases h
  have hget : ∀ {i : Nat} {o : AObj}, (ofL [(5, .row T (.lst L) true)]).get i = some o → i = 5 ∧ o = .row T (.lst L) true := fun {i o} h => by
    rw [get_ofL] at h
    have := lkL_mem h
    simp only [List.mem_singleton, Prod.mk.injEq] at this
    exact this
  have hrow : HR0 P w (fun _ => False) E (ofL [(5, .row T (.lst L) true)]) w := by
    refine @HR.mk den0 _ _ _ _ _ _ ⟨rfl, rfl, rfl, Nat.le_refl _, fun _ _ _ => rfl⟩ (fun i e h => ?_) (fun i o h => ?_) (fun i j o p x y hne hi hj hlo hlp hw hx hy => ?_) (fun i o e hi hw _ => ?_)
    · rw [(hE h).1, get_ofL]; exact fun h => by cases h
    · obtain ⟨rfl, rfl⟩ := hget h
      refine ⟨⟨a.block, a.off, cap⟩, cells, rfl, ⟨fz, hb⟩, nofun, fun k v hk => ?_⟩
      rw [get_lst] at hk
      have h1 := hL k v hk
      rw [add_none hs] at h1
      obtain ⟨_, cells2, T2, fz2, hb2, h2⟩ := cell_at h1
      simp only at hb2 h2
      rw [hb] at hb2
      cases hb2
      have hpv := List.all_eq_true.1 hp v (List.mem_of_getElem? hk)
      exact ⟨v, h2, @VR.cleanS den0 _ _ (by cases v <;> first | rfl | (simp [plainS] at hpv)), by cases v <;> first | rfl | (simp [plainS] at hpv)⟩
    · obtain ⟨rfl, _⟩ := hget hi
      obtain ⟨rfl, _⟩ := hget hj
      exact absurd rfl hne
    · obtain ⟨_, rfl⟩ := hget hi
      cases hw
  have hargs : LR0 E [.slice (some ⟨5, 0, none⟩) len (if cap < HALF then cap else INF)] [.slice (some a) len cap] := by
    refine ⟨rfl, fun k x y hx hy => ?_⟩
    match k with
    | 0 =>
      simp only [List.getElem?_cons_zero, Option.some.injEq] at hx hy
      subst hx hy
      have hcap := fit_cap ⟨a.block, a.off, cap⟩ (cap := cap) rfl
      have := @VR.sl den0 E 5 0 len (if cap < HALF then cap else INF) ⟨a.block, a.off, cap⟩ a rfl (by rw [hcap]; exact hl) (.inl (by cases a; simp only at hs; subst hs; rfl))
      rw [hcap] at this
      exact this
    | k + 1 => simp at hx
  have := (hc T).2 w (fun _ => False) E [.slice (some a) len cap] hrow hargs Fence.wide 0 ⟨fun _ => trivial, rfl⟩
  exact (callsIn_wide.1 this).mono fun e w' ⟨v', E', h1, _, h3, h4⟩ => ⟨⟨v', E', h1, h4⟩, (@HR.keeps den0 _ _ _ _ _ _ h3).below⟩
theorem call_nil {P : Program} {g : FuncId} {w : World} {res : Value} {B : HL} (hc : Ctr P g [.slice none 0 0] [] res B) : Calls P g #[.slice none 0 0] w fun e w' => (∃ v' E', e = .returned v' ∧ VR0 E' res v') ∧ Go.RowKit.Below w.heap.size w w' := by
  have hargs : LR0 (fun _ => none) [.slice none 0 0] [.slice none 0 0] := ⟨rfl, fun k x y hx hy => by
    match k with
    | 0 =>
      simp only [List.getElem?_cons_zero, Option.some.injEq] at hx hy
      subst hx hy
      exact @VR.nilS den0 _
    | k + 1 => simp at hx⟩
  have := hc.2 w (fun _ => False) (fun _ => none) [.slice none 0 0] (@HR.start den0 P w) hargs Fence.wide 0 ⟨fun _ => trivial, rfl⟩
  exact (callsIn_wide.1 this).mono fun e w' ⟨v', E', h1, _, h3, h4⟩ => ⟨⟨v', E', h1, h4⟩, (@HR.keeps den0 _ _ _ _ _ _ h3).below⟩
theorem call_zero {P : Program} {g : FuncId} {w : World} {a : Addr} {res : Value} {B : HL} (hc : Ctr P g [.slice (some ⟨5, 0, none⟩) 0 0] [(5, .dead)] res B) : Calls P g #[.slice (some a) 0 0] w fun e w' => (∃ v' E', e = .returned v' ∧ VR0 E' res v') ∧ Go.RowKit.Below w.heap.size w w' := by
  let E : Env := fun i => if i = 5 then some ⟨0, 0, 0⟩ else none
  have hget : ∀ {i : Nat} {o : AObj}, (ofL [(5, .dead)]).get i = some o → i = 5 ∧ o = .dead := fun {i o} h => by
    rw [get_ofL] at h
    have := lkL_mem h
    simp only [List.mem_singleton, Prod.mk.injEq] at this
    exact this
  have hrow : HR0 P w (fun _ => False) E (ofL [(5, .dead)]) w := by
    refine @HR.mk den0 _ _ _ _ _ _ ⟨rfl, rfl, rfl, Nat.le_refl _, fun _ _ _ => rfl⟩ (fun i e h => ?_) (fun i o h => ?_) (fun i j o p x y hne hi hj hlo hlp hw hx hy => ?_) (fun i o e hi hw _ => ?_)
    · simp only [E] at h
      split at h
      · rename_i hi; subst hi; rw [get_ofL]; exact fun h => by cases h
      · cases h
    · obtain ⟨rfl, rfl⟩ := hget h; trivial
    · obtain ⟨rfl, rfl⟩ := hget hi; cases hlo
    · obtain ⟨rfl, rfl⟩ := hget hi; cases hw
  have hargs : LR0 E [.slice (some ⟨5, 0, none⟩) 0 0] [.slice (some a) 0 0] := by
    refine ⟨rfl, fun k x y hx hy => ?_⟩
    match k with
    | 0 =>
      simp only [List.getElem?_cons_zero, Option.some.injEq] at hx hy
      subst hx hy
      have hcap : capOf ⟨0, 0, 0⟩ 0 = 0 := by decide +kernel
      have := @VR.sl den0 E 5 0 0 0 ⟨0, 0, 0⟩ a rfl (Nat.zero_le _) (.inr hcap)
      rw [hcap] at this
      exact this
    | k + 1 => simp at hx
  have := hc.2 w (fun _ => False) E [.slice (some a) 0 0] hrow hargs Fence.wide 0 ⟨fun _ => trivial, rfl⟩
  exact (callsIn_wide.1 this).mono fun e w' ⟨v', E', h1, _, h3, h4⟩ => ⟨⟨v', E', h1, h4⟩, (@HR.keeps den0 _ _ _ _ _ _ h3).below⟩
theorem encS_app : ∀ l m : List Stp, encS (l ++ m) = encS l ++ encS m
  | [], _ => rfl
  | x :: l, m => by simp [encS, encS_app l m]
theorem steps_of {f : Nat → Option Value} : ∀ n : Nat, (∀ i, i < n → ∃ x : Stp, ∀ j v, (encS [x])[j]? = some v → f (i * 5 + j) = some v) → ∃ l : List Stp, l.length = n ∧ ∀ k v, (encS l)[k]? = some v → f k = some v
  | 0, _ => ⟨[], rfl, fun k v h => by simp [encS] at h⟩
  | n + 1, h => by
    obtain ⟨l, hl, hg⟩ := steps_of n fun i hi => h i (by omega)
    obtain ⟨x, hx⟩ := h n (by omega)
    refine ⟨l ++ [x], by simp [hl], fun k v hk => ?_⟩
    rw [encS_app] at hk
    by_cases hkn : k < (encS l).length
    · rw [List.getElem?_append_left hkn] at hk; exact hg k v hk
    · rw [List.getElem?_append_right (by omega)] at hk
      have hlen := encS_len l
      have := hx _ v hk
      rw [show n * 5 + (k - (encS l).length) = k from by omega] at this
      exact this
theorem law1 {g : FuncId} (hnil : Ctr Try.prog g [.slice none 0 0] [] (.bool true) []) (hzero : Ctr Try.prog g [.slice (some ⟨5, 0, none⟩) 0 0] [(5, .dead)] (.bool true) [(5, .dead)])
    (hall : ∀ (T : TypeId) (l : List Stp) (cp : Nat), Ctr Try.prog g [.slice (some ⟨5, 0, none⟩) l.length cp] [(5, .row T (.lst (encS l)) true)] (.bool true) []) (w : World) :
    (Calls Try.prog g #[.slice none 0 0] w fun e w' => e = .returned (.bool true) ∧ Go.RowKit.Below w.heap.size w w') ∧
    ∀ {a : Addr} {len cap : Nat}, len ≤ cap → (∀ i, i < cap → ∃ x : Stp, ∀ j v, (encS [x])[j]? = some v → w.cell? (a.add (i * 5 + j)) = some v) →
      Calls Try.prog g #[.slice (some a) len cap] w fun e w' => e = .returned (.bool true) ∧ Go.RowKit.Below w.heap.size w w' := by
  have fin : ∀ {e : Ending} {w' : World}, ((∃ v' E', e = .returned v' ∧ VR0 E' (.bool true) v') ∧ Go.RowKit.Below w.heap.size w w') → e = .returned (.bool true) ∧ Go.RowKit.Below w.heap.size w w' := fun {e w'} ⟨⟨v', E', h1, h2⟩, h3⟩ => by
    cases h2
    exact ⟨h1, h3⟩
  refine ⟨(call_nil hnil).mono fun _ _ => fin, fun {a len cap} hl hc => ?_⟩
  by_cases h0 : cap = 0
  · subst h0
    have : len = 0 := by omega
    subst this
    exact (call_zero hzero).mono fun _ _ => fin
  · obtain ⟨l, hn, hg⟩ := steps_of (f := fun k => w.cell? (a.add k)) len fun i hi => hc i (by omega)
    obtain ⟨x, hx⟩ := hc 0 (by omega)
    subst hn
    exact (call_slice hl (v0 := .int .i64 x.k) (hx 0 _ rfl) hg (encS_plain l) fun T => hall T l _).mono fun _ _ => fin
end Go.Proofs.Ytjpgnjaobfbojaa
namespace Go.Proofs.Ytjpgnjaobfbojaa
open Go.Sx
set_option maxRecDepth 20000
def hP0 (T : TypeId) : HL := [(5, .orow T 1 true)]
def hP1 (T : TypeId) : HL := [(0, .row 73 (.lst (syms [])) false), (1, .orow 34 0 false), (2, .row 52 (.lst (syms [(26, .chan (some 1))])) false), (3, .mrow 34 0 false), (5, .orow T 1 true)]
def hB2 (T : TypeId) : HL := hP1 T ++ [(6, .mrow 45 2 false)]
def fB1 : FV := [(0, .chan (some 2)), (3, .pointer (some ⟨0, 0, none⟩)), (4, .pointer (some ⟨2, 0, none⟩)), (5, sv 39), (6, sv 40)]
def fB2 : FV := fB1 ++ [(7, .chan (some 3)), (10, sv 41)]
noncomputable def kB1 : List KI := kskip 17 [.code (codeOf Try.prog 7)]
noncomputable def kB2 : List KI := kskip 20 kB1
noncomputable def kB3 : List KI := kskip 25 kB2
noncomputable def xB1 (T : TypeId) : Cfg := headC kB1 .normal fB1 163 6 (hP1 T)
noncomputable def xB2 (T : TypeId) : Cfg := headC kB2 .normal fB2 163 7 (hB2 T)
noncomputable def xB3 (T : TypeId) : Cfg := headC kB3 .normal (fB2 ++ [(12, sv 42), (13, sv 43), (14, sv 44)]) 163 7 (hB2 T)
noncomputable abbrev dB1 (s : St) (sts : List Stp) (cp i : Nat) : Den := ds s [.int .i64 (i : Nat)] [.v (lineV 1 s.line), olv 3 s.line, .v (stsV sts cp)] [encL s.line, encS sts]
noncomputable abbrev dB2 (s : St) (sts : List Stp) (cp : Nat) (o : List Ord) (c i k : Nat) : Den := ds s [.int .i64 (i : Nat), .int .i64 (k : Nat)] [.v (lineV 1 s.line), olv 3 s.line, .v (stsV sts cp), oord 6 c o] [encL s.line, encS sts, encOrds o]
noncomputable abbrev dB3 (s : St) (sts : List Stp) (cp : Nat) (o : List Ord) (c i k : Nat) (who frm : Int) (n : Nat) : Den := ds s [.int .i64 (i : Nat), .int .i64 (k : Nat), .int .i64 who, .int .i64 frm, .int .i64 (n : Nat)] [.v (lineV 1 s.line), olv 3 s.line, .v (stsV sts cp), oord 6 c o] [encL s.line, encS sts, encOrds o]
def GB (T : TypeId) (sts : List Stp) (d : Den) (x : Cfg) : Prop := GoodS d Try.prog 7 [(5, .row T (.lst (encS sts)) true)] (.bool true) [] [] x
structure BookOk (s t : St) : Prop where
  x : t.x ≥ 0 → listTo t.sh 8 = [] ∧ t.owner = t.x
  op : s.op ≤ t.op
  line : t.wt = 0 → t.line = []
structure OrdOk (s : St) (x : Ord) : Prop where
  six : x.kind = 6 → x.op = 0
  op : x.kind ≠ 6 → 1 ≤ x.op ∧ x.op ≤ s.op
  grant : x.kind = 1 → x.mode = 2 → ∀ n : Nat, n < 8 → (holdsM s n).2 = true → (n : Int) = x.to
  yield : x.kind = 3 → ∀ n : Nat, n < 8 → (holdsM s n).2 = true → (n : Int) = x.node ∨ (n : Int) = x.to
theorem ord_in {o : List Ord} {k : Nat} {x : Ord} (h : o[k]? = some x) : k * 6 + 6 ≤ (encOrds o).length := by
  have := (List.getElem?_eq_some_iff.1 h).1
  rw [encOrds_len]; omega
section
variable {s t : St} {sts : List Stp} {cp i k c n : Nat} {who frm : Int} {o : List Ord} {x : Ord} {T : TypeId}
theorem books_end : GB T sts (dB1 s sts cp sts.length) (xB1 T) := by
  · exact gF (ds s [iv (sts.length : Nat)] [.v (lineV 1 s.line), olv 3 s.line, .v (stsV sts cp)] [encL s.line, encS sts]) ⟨[(.len 22 (ch 2), sv 40), kf .lss 3 (sv 40) (sv 40)], [], []⟩ [(12, [eKn 6])] ⟨asLen u22 rfl (by kernel_rfl), qF ((sts.length : Int) < (sts.length : Int)), trivial⟩ trivial trivial ⟨oe known_ctr, trivial⟩ 10 []
theorem books_step {c1 c2 : Nat} (hi : i < sts.length) (hb : BookOk s t) (hl : t.line.length < 100000) (hD : Ctr Try.prog 16 [.pointer (some ⟨0, 0, none⟩), .pointer (some ⟨2, 0, none⟩), stepV (stAt sts i).k (stAt sts i).n (stAt sts i).m (stAt sts i).op (stAt sts i).psn] (twoA s) (.tuple #[ordR 6 c1 o, ordR 7 c2 o]) (twoE t o)) (hg : GB T sts (dB2 t sts cp o c1 i 0) (xB2 T)) : GB T sts (dB1 s sts cp i) (xB1 T) := by
  have hx := hb.x
  have hop := hb.op
  have hl0 : ¬ (t.wt != 0) = true → t.line = [] := fun h => hb.line (by simpa using h)
  · by_cases h0 : ((t.x) : Int) ≥ (0)
    · by_cases h1 : (t.wt != 0) = true
      · exact gS (ds s ([iv (i : Nat), iv (sts.length : Nat), iv (stAt sts i).k, iv (stAt sts i).n, iv (stAt sts i).m, iv (stAt sts i).op, iv (stAt sts i).psn] ++ tv t ++ [.bool (t.wt != 0), .bool (t.wt == 0)]) [.v (lineV 1 s.line), olv 3 s.line, .v (stsV sts cp), .v (pt 5 (i * 5)), .v (lineV 6 t.line), olv 7 t.line, oord 8 c1 o, oord 9 c2 o, oint 10 (listTo t.sh 8), oint 11 (listTo t.pa 8), .v (lineV 12 t.line)] [encL s.line, encS sts, encL t.line, encOrds o, encI (listTo t.sh 8), encI (listTo t.pa 8)]) (dB2 t sts cp o c1 i 0) ⟨[(.len 22 (ch 2), sv 41), kt .lss 3 (sv 40) (sv 41), (.ixa 22 (ch 2) (sv 40), ch 3), kt .geq 3 (sv 47) (iv 0), (.len 29 (ch 8), iv 0), kf .neq 3 (sv 48) (sv 47), kf .lss 2 (sv 86) (sv 39), kf .eql 4 (sv 87) (sv 88), (.un .not (sv 87), .bool false)], [⟨42, 3, 5, 1, .agg #[sv 42, sv 43, sv 44, sv 45, sv 46]⟩], []⟩ [(16, [eDo [pt 0 0, pt 2 0, .agg #[sv 42, sv 43, sv 44, sv 45, sv 46]] 6 0 1 2 3 (.row 73 (.lst (syms [])) false) (.orow 34 0 false) (.row 52 (.lst (syms [(26, ch 1)])) false) (.mrow 34 0 false) 47 4 2]), (15, [eBk 10 0 6 (.row 73 (.lst (symsT 47 4)) false) (.orow 34 2 false) 47 8 87 4 5 (.orow 34 2 false)]), (21, [eId 14 0 6 (.row 73 (.lst (symsT 47 4)) false) 88])] ⟨asLen u22 rfl (by kernel_rfl), qT ((i : Int) < (sts.length : Int)), asIxa u22 z42 rfl rfl (by omega) (by omega) rfl (by simp), qT (t.x ≥ 0), asLen u29 rfl (by rw [(hx (by omega)).1]; rfl), nF t.owner t.x (by have := hx (by omega); omega), qF (t.op < s.op), asB (c := ((t.wt != 0) == (t.wt == 0))) (by kernel_rfl) (by cases h : (t.wt == 0) <;> simp [bne, h]), asB (c := !((t.wt != 0))) (by kernel_rfl) (by rw [show (t.wt != 0) = true from h1]; rfl), trivial⟩ ⟨ld_agg a42 z42 rfl (st_len hi) (st_row hi) rfl (by kernel_rfl), trivial⟩ trivial ⟨oe hD, oe (bookG_ctr (s := t) (by omega)), oe (idle_ctr t t.line.length (capL t.line)), trivial⟩ 20 [(0, 0), (6, 1), (2, 2), (7, 3), (5, 5), (8, 6)] hg
      · exact gS (ds s ([iv (i : Nat), iv (sts.length : Nat), iv (stAt sts i).k, iv (stAt sts i).n, iv (stAt sts i).m, iv (stAt sts i).op, iv (stAt sts i).psn] ++ tv t ++ [.bool (t.wt != 0), .bool (t.wt == 0)]) [.v (lineV 1 s.line), olv 3 s.line, .v (stsV sts cp), .v (pt 5 (i * 5)), .v (lineV 6 t.line), olv 7 t.line, oord 8 c1 o, oord 9 c2 o, oint 10 (listTo t.sh 8), oint 11 (listTo t.pa 8), .v (lineV 12 t.line)] [encL s.line, encS sts, encL t.line, encOrds o, encI (listTo t.sh 8), encI (listTo t.pa 8)]) (dB2 t sts cp o c1 i 0) ⟨[(.len 22 (ch 2), sv 41), kt .lss 3 (sv 40) (sv 41), (.ixa 22 (ch 2) (sv 40), ch 3), kt .geq 3 (sv 47) (iv 0), (.len 29 (ch 8), iv 0), kf .neq 3 (sv 48) (sv 47), kf .lss 2 (sv 86) (sv 39), kf .eql 4 (sv 87) (sv 88), (.un .not (sv 87), .bool true), (.len 31 (ch 10), iv 0)], [⟨42, 3, 5, 1, .agg #[sv 42, sv 43, sv 44, sv 45, sv 46]⟩], []⟩ [(16, [eDo [pt 0 0, pt 2 0, .agg #[sv 42, sv 43, sv 44, sv 45, sv 46]] 6 0 1 2 3 (.row 73 (.lst (syms [])) false) (.orow 34 0 false) (.row 52 (.lst (syms [(26, ch 1)])) false) (.mrow 34 0 false) 47 4 2]), (15, [eBk 10 0 6 (.row 73 (.lst (symsT 47 4)) false) (.orow 34 2 false) 47 8 87 4 5 (.orow 34 2 false)]), (21, [eId 14 0 6 (.row 73 (.lst (symsT 47 4)) false) 88])] ⟨asLen u22 rfl (by kernel_rfl), qT ((i : Int) < (sts.length : Int)), asIxa u22 z42 rfl rfl (by omega) (by omega) rfl (by simp), qT (t.x ≥ 0), asLen u29 rfl (by rw [(hx (by omega)).1]; rfl), nF t.owner t.x (by have := hx (by omega); omega), qF (t.op < s.op), asB (c := ((t.wt != 0) == (t.wt == 0))) (by kernel_rfl) (by cases h : (t.wt == 0) <;> simp [bne, h]), asB (c := !((t.wt != 0))) (by kernel_rfl) (by rw [show (t.wt != 0) = false from Bool.eq_false_iff.2 h1]; rfl), asLen u31 rfl (by rw [hl0 (by assumption)]; rfl), trivial⟩ ⟨ld_agg a42 z42 rfl (st_len hi) (st_row hi) rfl (by kernel_rfl), trivial⟩ trivial ⟨oe hD, oe (bookG_ctr (s := t) (by omega)), oe (idle_ctr t t.line.length (capL t.line)), trivial⟩ 20 [(0, 0), (6, 1), (2, 2), (7, 3), (5, 5), (8, 6)] hg
    · by_cases h2 : (t.wt != 0) = true
      · exact gS (ds s ([iv (i : Nat), iv (sts.length : Nat), iv (stAt sts i).k, iv (stAt sts i).n, iv (stAt sts i).m, iv (stAt sts i).op, iv (stAt sts i).psn] ++ tv t ++ [.bool (t.wt != 0), .bool (t.wt == 0)]) [.v (lineV 1 s.line), olv 3 s.line, .v (stsV sts cp), .v (pt 5 (i * 5)), .v (lineV 6 t.line), olv 7 t.line, oord 8 c1 o, oord 9 c2 o, oint 10 (listTo t.sh 8), oint 11 (listTo t.pa 8), .v (lineV 12 t.line)] [encL s.line, encS sts, encL t.line, encOrds o, encI (listTo t.sh 8), encI (listTo t.pa 8)]) (dB2 t sts cp o c1 i 0) ⟨[(.len 22 (ch 2), sv 41), kt .lss 3 (sv 40) (sv 41), (.ixa 22 (ch 2) (sv 40), ch 3), kf .geq 3 (sv 47) (iv 0), kf .lss 2 (sv 86) (sv 39), kf .eql 4 (sv 87) (sv 88), (.un .not (sv 87), .bool false)], [⟨42, 3, 5, 1, .agg #[sv 42, sv 43, sv 44, sv 45, sv 46]⟩], []⟩ [(16, [eDo [pt 0 0, pt 2 0, .agg #[sv 42, sv 43, sv 44, sv 45, sv 46]] 6 0 1 2 3 (.row 73 (.lst (syms [])) false) (.orow 34 0 false) (.row 52 (.lst (syms [(26, ch 1)])) false) (.mrow 34 0 false) 47 4 2]), (15, [eBk 10 0 6 (.row 73 (.lst (symsT 47 4)) false) (.orow 34 2 false) 47 8 87 4 5 (.orow 34 2 false)]), (21, [eId 14 0 6 (.row 73 (.lst (symsT 47 4)) false) 88])] ⟨asLen u22 rfl (by kernel_rfl), qT ((i : Int) < (sts.length : Int)), asIxa u22 z42 rfl rfl (by omega) (by omega) rfl (by simp), qF (t.x ≥ 0), qF (t.op < s.op), asB (c := ((t.wt != 0) == (t.wt == 0))) (by kernel_rfl) (by cases h : (t.wt == 0) <;> simp [bne, h]), asB (c := !((t.wt != 0))) (by kernel_rfl) (by rw [show (t.wt != 0) = true from h2]; rfl), trivial⟩ ⟨ld_agg a42 z42 rfl (st_len hi) (st_row hi) rfl (by kernel_rfl), trivial⟩ trivial ⟨oe hD, oe (bookG_ctr (s := t) (by omega)), oe (idle_ctr t t.line.length (capL t.line)), trivial⟩ 20 [(0, 0), (6, 1), (2, 2), (7, 3), (5, 5), (8, 6)] hg
      · exact gS (ds s ([iv (i : Nat), iv (sts.length : Nat), iv (stAt sts i).k, iv (stAt sts i).n, iv (stAt sts i).m, iv (stAt sts i).op, iv (stAt sts i).psn] ++ tv t ++ [.bool (t.wt != 0), .bool (t.wt == 0)]) [.v (lineV 1 s.line), olv 3 s.line, .v (stsV sts cp), .v (pt 5 (i * 5)), .v (lineV 6 t.line), olv 7 t.line, oord 8 c1 o, oord 9 c2 o, oint 10 (listTo t.sh 8), oint 11 (listTo t.pa 8), .v (lineV 12 t.line)] [encL s.line, encS sts, encL t.line, encOrds o, encI (listTo t.sh 8), encI (listTo t.pa 8)]) (dB2 t sts cp o c1 i 0) ⟨[(.len 22 (ch 2), sv 41), kt .lss 3 (sv 40) (sv 41), (.ixa 22 (ch 2) (sv 40), ch 3), kf .geq 3 (sv 47) (iv 0), kf .lss 2 (sv 86) (sv 39), kf .eql 4 (sv 87) (sv 88), (.un .not (sv 87), .bool true), (.len 31 (ch 10), iv 0)], [⟨42, 3, 5, 1, .agg #[sv 42, sv 43, sv 44, sv 45, sv 46]⟩], []⟩ [(16, [eDo [pt 0 0, pt 2 0, .agg #[sv 42, sv 43, sv 44, sv 45, sv 46]] 6 0 1 2 3 (.row 73 (.lst (syms [])) false) (.orow 34 0 false) (.row 52 (.lst (syms [(26, ch 1)])) false) (.mrow 34 0 false) 47 4 2]), (15, [eBk 10 0 6 (.row 73 (.lst (symsT 47 4)) false) (.orow 34 2 false) 47 8 87 4 5 (.orow 34 2 false)]), (21, [eId 14 0 6 (.row 73 (.lst (symsT 47 4)) false) 88])] ⟨asLen u22 rfl (by kernel_rfl), qT ((i : Int) < (sts.length : Int)), asIxa u22 z42 rfl rfl (by omega) (by omega) rfl (by simp), qF (t.x ≥ 0), qF (t.op < s.op), asB (c := ((t.wt != 0) == (t.wt == 0))) (by kernel_rfl) (by cases h : (t.wt == 0) <;> simp [bne, h]), asB (c := !((t.wt != 0))) (by kernel_rfl) (by rw [show (t.wt != 0) = false from Bool.eq_false_iff.2 h2]; rfl), asLen u31 rfl (by rw [hl0 (by assumption)]; rfl), trivial⟩ ⟨ld_agg a42 z42 rfl (st_len hi) (st_row hi) rfl (by kernel_rfl), trivial⟩ trivial ⟨oe hD, oe (bookG_ctr (s := t) (by omega)), oe (idle_ctr t t.line.length (capL t.line)), trivial⟩ 20 [(0, 0), (6, 1), (2, 2), (7, 3), (5, 5), (8, 6)] hg
theorem books_n (hn : n < 8) (hh : (holdsM s n).2 = true → (n : Int) = who ∨ (n : Int) = frm) (hg : GB T sts (dB3 s sts cp o c i k who frm (n + 1)) (xB3 T)) : GB T sts (dB3 s sts cp o c i k who frm n) (xB3 T) := by
  · by_cases h0 : (holdsM s (((n : Nat) : Int))).2 = true
    · by_cases h1 : ((((n : Nat) : Int)) : Int) = (who)
      · exact gS (ds s [iv (i : Nat), iv (k : Nat), iv who, iv frm, iv (n : Nat), iv (holdsM s (((n : Nat) : Int))).1, .bool (holdsM s (((n : Nat) : Int))).2, iv ((n + 1 : Nat) : Int)] [.v (lineV 1 s.line), olv 3 s.line, .v (stsV sts cp), oord 6 c o] [encL s.line, encS sts, encOrds o]) (dB3 s sts cp o c i k who frm (n + 1)) ⟨[kt .lss 3 (sv 44) (iv 8), tt 46, kf .neq 3 (sv 44) (sv 42), (.bin .add 3 (sv 44) (iv 1), sv 47)], [], []⟩ [(22, [eHo [pt 0 0, sv 44] 7 0 1 (.row 73 (.lst (syms [])) false) (.orow 34 0 false) 45 46])] ⟨qT ((n : Int) < 8), tB h0, nF ((((n : Nat) : Int)) : Int) who, asP (u := iv ((n + 1 : Nat) : Int)) (Eq.trans (b := some (iv (IntKind.i64.wrap ((n : Int) + 1)))) (by kernel_rfl) (by rw [wrap_id (by omega) (by omega)]; rfl)) (by kernel_rfl), trivial⟩ trivial trivial ⟨oe (holds_ctr s (((n : Nat) : Int))), trivial⟩ 14 [(0, 0), (1, 1), (2, 2), (3, 3), (5, 5), (6, 6)] hg
      · by_cases h2 : ((((n : Nat) : Int)) : Int) = (frm)
        · exact gS (ds s [iv (i : Nat), iv (k : Nat), iv who, iv frm, iv (n : Nat), iv (holdsM s (((n : Nat) : Int))).1, .bool (holdsM s (((n : Nat) : Int))).2, iv ((n + 1 : Nat) : Int)] [.v (lineV 1 s.line), olv 3 s.line, .v (stsV sts cp), oord 6 c o] [encL s.line, encS sts, encOrds o]) (dB3 s sts cp o c i k who frm (n + 1)) ⟨[kt .lss 3 (sv 44) (iv 8), tt 46, kt .neq 3 (sv 44) (sv 42), kf .neq 3 (sv 44) (sv 43), (.bin .add 3 (sv 44) (iv 1), sv 47)], [], []⟩ [(22, [eHo [pt 0 0, sv 44] 7 0 1 (.row 73 (.lst (syms [])) false) (.orow 34 0 false) 45 46])] ⟨qT ((n : Int) < 8), tB h0, nT ((((n : Nat) : Int)) : Int) who, nF ((((n : Nat) : Int)) : Int) frm, asP (u := iv ((n + 1 : Nat) : Int)) (Eq.trans (b := some (iv (IntKind.i64.wrap ((n : Int) + 1)))) (by kernel_rfl) (by rw [wrap_id (by omega) (by omega)]; rfl)) (by kernel_rfl), trivial⟩ trivial trivial ⟨oe (holds_ctr s (((n : Nat) : Int))), trivial⟩ 14 [(0, 0), (1, 1), (2, 2), (3, 3), (5, 5), (6, 6)] hg
        · exact absurd (hh (by assumption)) (by omega)
    · exact gS (ds s [iv (i : Nat), iv (k : Nat), iv who, iv frm, iv (n : Nat), iv (holdsM s (((n : Nat) : Int))).1, .bool (holdsM s (((n : Nat) : Int))).2, iv ((n + 1 : Nat) : Int)] [.v (lineV 1 s.line), olv 3 s.line, .v (stsV sts cp), oord 6 c o] [encL s.line, encS sts, encOrds o]) (dB3 s sts cp o c i k who frm (n + 1)) ⟨[kt .lss 3 (sv 44) (iv 8), tf 46, (.bin .add 3 (sv 44) (iv 1), sv 47)], [], []⟩ [(22, [eHo [pt 0 0, sv 44] 7 0 1 (.row 73 (.lst (syms [])) false) (.orow 34 0 false) 45 46])] ⟨qT ((n : Int) < 8), tB (Bool.eq_false_iff.2 h0), asP (u := iv ((n + 1 : Nat) : Int)) (Eq.trans (b := some (iv (IntKind.i64.wrap ((n : Int) + 1)))) (by kernel_rfl) (by rw [wrap_id (by omega) (by omega)]; rfl)) (by kernel_rfl), trivial⟩ trivial trivial ⟨oe (holds_ctr s (((n : Nat) : Int))), trivial⟩ 14 [(0, 0), (1, 1), (2, 2), (3, 3), (5, 5), (6, 6)] hg
theorem books_ne (hk : k < 100000) (hg : GB T sts (dB2 s sts cp o c i (k + 1)) (xB2 T)) : GB T sts (dB3 s sts cp o c i k who frm 8) (xB3 T) := by
  · exact gS (ds s [iv (i : Nat), iv (k : Nat), iv who, iv frm, iv (8 : Nat), iv ((k + 1 : Nat) : Int)] [.v (lineV 1 s.line), olv 3 s.line, .v (stsV sts cp), oord 6 c o] [encL s.line, encS sts, encOrds o]) (dB2 s sts cp o c i (k + 1)) ⟨[kf .lss 3 (sv 44) (iv 8), (.bin .add 3 (sv 41) (iv 1), sv 45)], [], []⟩ [] ⟨qF (((8 : Nat) : Int) < 8), asP (u := iv ((k + 1 : Nat) : Int)) (Eq.trans (b := some (iv (IntKind.i64.wrap ((k : Int) + 1)))) (by kernel_rfl) (by rw [wrap_id (by omega) (by omega)]; rfl)) (by kernel_rfl), trivial⟩ trivial trivial trivial 10 [(0, 0), (1, 1), (2, 2), (3, 3), (5, 5), (6, 6)] hg
theorem books_ns (hk : k < 100000) (hh : ∀ n : Nat, n < 8 → (holdsM s n).2 = true → (n : Int) = who ∨ (n : Int) = frm) (hg : GB T sts (dB2 s sts cp o c i (k + 1)) (xB2 T)) : ∀ (j n : Nat), n + j = 8 → GB T sts (dB3 s sts cp o c i k who frm n) (xB3 T)
  | 0, n, h => by
    have : n = 8 := by omega
    subst this; exact books_ne hk hg
  | j + 1, n, h => books_n (by omega) (hh n (by omega)) (books_ns hk hh hg j (n + 1) (by omega))
theorem books_ord (ho : o.length < 100000) (hget : o[k]? = some x) (hx : OrdOk s x) (hg : GB T sts (dB2 s sts cp o c i (k + 1)) (xB2 T)) : GB T sts (dB2 s sts cp o c i k) (xB2 T) := by
  have hk := (List.getElem?_eq_some_iff.1 hget).1
  have h6 := hx.six
  have hn6 := hx.op
  have hgG : x.kind = 1 → x.mode = 2 → GB T sts (dB3 s sts cp o c i k x.to x.to 0) (xB3 T) := fun h1 h2 => books_ns (by omega) (fun n hn hh => .inl (hx.grant h1 h2 n hn hh)) hg 8 0 rfl
  have hgY : x.kind = 3 → GB T sts (dB3 s sts cp o c i k x.node x.to 0) (xB3 T) := fun h1 => books_ns (by omega) (hx.yield h1) hg 8 0 rfl
  · by_cases h0 : ((x.kind) : Int) = (6)
    · exact gS (ds s [iv (i : Nat), iv (k : Nat), iv (o.length : Nat), iv x.kind, iv x.to, iv x.op, iv x.mode, iv x.node, iv x.psn, iv ((k + 1 : Nat) : Int)] [.v (lineV 1 s.line), olv 3 s.line, .v (stsV sts cp), oord 6 c o, .v (pt 6 (k * 6))] [encL s.line, encS sts, encOrds o]) (dB2 s sts cp o c i (k + 1)) ⟨[(.len 28 (ch 3), sv 42), kt .lss 3 (sv 41) (sv 42), (.ixa 28 (ch 3) (sv 41), ch 4), kt .eql 43 (sv 43) (iv 6), kf .neq 2 (sv 45) (iv 0), kf .neq 43 (sv 43) (iv 6), kf .eql 43 (sv 43) (iv 1), kf .eql 43 (sv 43) (iv 3), (.bin .add 3 (sv 41) (iv 1), sv 49)], [⟨45, 4, 6, 2, .agg #[sv 43, sv 44, sv 45, sv 46, sv 47, sv 48]⟩], []⟩ [] ⟨asLen u28 rfl (by kernel_rfl), qT ((k : Int) < (o.length : Int)), asIxaM u28 z45 rfl rfl (by omega) (by omega) rfl (by simp), eT x.kind 6, nF x.op 0 (by have := h6 (by omega); omega), nF x.kind 6, eF x.kind 1, eF x.kind 3, asP (u := iv ((k + 1 : Nat) : Int)) (Eq.trans (b := some (iv (IntKind.i64.wrap ((k : Int) + 1)))) (by kernel_rfl) (by rw [wrap_id (by omega) (by omega)]; rfl)) (by kernel_rfl), trivial⟩ ⟨ld_agg u45 z45 rfl (ord_in hget) (encOrds_at _ _ _ hget) rfl (by kernel_rfl), trivial⟩ trivial trivial 19 [(0, 0), (1, 1), (2, 2), (3, 3), (5, 5), (6, 6)] hg
    · by_cases h1 : ((x.kind) : Int) = (1)
      · by_cases h2 : ((x.mode) : Int) = (2)
        · exact gS (ds s [iv (i : Nat), iv (k : Nat), iv (o.length : Nat), iv x.kind, iv x.to, iv x.op, iv x.mode, iv x.node, iv x.psn] [.v (lineV 1 s.line), olv 3 s.line, .v (stsV sts cp), oord 6 c o, .v (pt 6 (k * 6))] [encL s.line, encS sts, encOrds o]) (dB3 s sts cp o c i k (x.to) (x.to) 0) ⟨[(.len 28 (ch 3), sv 42), kt .lss 3 (sv 41) (sv 42), (.ixa 28 (ch 3) (sv 41), ch 4), kf .eql 43 (sv 43) (iv 6), kt .neq 43 (sv 43) (iv 6), kf .lss 2 (sv 45) (iv 1), kf .gtr 2 (sv 45) (sv 39), kt .eql 43 (sv 43) (iv 1), kt .eql 40 (sv 46) (iv 2)], [⟨45, 4, 6, 2, .agg #[sv 43, sv 44, sv 45, sv 46, sv 47, sv 48]⟩], []⟩ [] ⟨asLen u28 rfl (by kernel_rfl), qT ((k : Int) < (o.length : Int)), asIxaM u28 z45 rfl rfl (by omega) (by omega) rfl (by simp), eF x.kind 6, nT x.kind 6, qF (x.op < 1) (by have := hn6 (by omega); omega), qF (x.op > s.op) (by have := hn6 (by omega); omega), eT x.kind 1, eT x.mode 2, trivial⟩ ⟨ld_agg u45 z45 rfl (ord_in hget) (encOrds_at _ _ _ hget) rfl (by kernel_rfl), trivial⟩ trivial trivial 25 [(0, 0), (1, 1), (2, 2), (3, 3), (5, 5), (6, 6)] (hgG (by omega) (by omega))
        · exact gS (ds s [iv (i : Nat), iv (k : Nat), iv (o.length : Nat), iv x.kind, iv x.to, iv x.op, iv x.mode, iv x.node, iv x.psn, iv ((k + 1 : Nat) : Int)] [.v (lineV 1 s.line), olv 3 s.line, .v (stsV sts cp), oord 6 c o, .v (pt 6 (k * 6))] [encL s.line, encS sts, encOrds o]) (dB2 s sts cp o c i (k + 1)) ⟨[(.len 28 (ch 3), sv 42), kt .lss 3 (sv 41) (sv 42), (.ixa 28 (ch 3) (sv 41), ch 4), kf .eql 43 (sv 43) (iv 6), kt .neq 43 (sv 43) (iv 6), kf .lss 2 (sv 45) (iv 1), kf .gtr 2 (sv 45) (sv 39), kt .eql 43 (sv 43) (iv 1), kf .eql 40 (sv 46) (iv 2), kf .eql 43 (sv 43) (iv 3), (.bin .add 3 (sv 41) (iv 1), sv 49)], [⟨45, 4, 6, 2, .agg #[sv 43, sv 44, sv 45, sv 46, sv 47, sv 48]⟩], []⟩ [] ⟨asLen u28 rfl (by kernel_rfl), qT ((k : Int) < (o.length : Int)), asIxaM u28 z45 rfl rfl (by omega) (by omega) rfl (by simp), eF x.kind 6, nT x.kind 6, qF (x.op < 1) (by have := hn6 (by omega); omega), qF (x.op > s.op) (by have := hn6 (by omega); omega), eT x.kind 1, eF x.mode 2, eF x.kind 3, asP (u := iv ((k + 1 : Nat) : Int)) (Eq.trans (b := some (iv (IntKind.i64.wrap ((k : Int) + 1)))) (by kernel_rfl) (by rw [wrap_id (by omega) (by omega)]; rfl)) (by kernel_rfl), trivial⟩ ⟨ld_agg u45 z45 rfl (ord_in hget) (encOrds_at _ _ _ hget) rfl (by kernel_rfl), trivial⟩ trivial trivial 19 [(0, 0), (1, 1), (2, 2), (3, 3), (5, 5), (6, 6)] hg
      · by_cases h3 : ((x.kind) : Int) = (3)
        · exact gS (ds s [iv (i : Nat), iv (k : Nat), iv (o.length : Nat), iv x.kind, iv x.to, iv x.op, iv x.mode, iv x.node, iv x.psn] [.v (lineV 1 s.line), olv 3 s.line, .v (stsV sts cp), oord 6 c o, .v (pt 6 (k * 6))] [encL s.line, encS sts, encOrds o]) (dB3 s sts cp o c i k (x.node) (x.to) 0) ⟨[(.len 28 (ch 3), sv 42), kt .lss 3 (sv 41) (sv 42), (.ixa 28 (ch 3) (sv 41), ch 4), kf .eql 43 (sv 43) (iv 6), kt .neq 43 (sv 43) (iv 6), kf .lss 2 (sv 45) (iv 1), kf .gtr 2 (sv 45) (sv 39), kf .eql 43 (sv 43) (iv 1), kt .eql 43 (sv 43) (iv 3)], [⟨45, 4, 6, 2, .agg #[sv 43, sv 44, sv 45, sv 46, sv 47, sv 48]⟩], []⟩ [] ⟨asLen u28 rfl (by kernel_rfl), qT ((k : Int) < (o.length : Int)), asIxaM u28 z45 rfl rfl (by omega) (by omega) rfl (by simp), eF x.kind 6, nT x.kind 6, qF (x.op < 1) (by have := hn6 (by omega); omega), qF (x.op > s.op) (by have := hn6 (by omega); omega), eF x.kind 1, eT x.kind 3, trivial⟩ ⟨ld_agg u45 z45 rfl (ord_in hget) (encOrds_at _ _ _ hget) rfl (by kernel_rfl), trivial⟩ trivial trivial 25 [(0, 0), (1, 1), (2, 2), (3, 3), (5, 5), (6, 6)] (hgY (by omega))
        · exact gS (ds s [iv (i : Nat), iv (k : Nat), iv (o.length : Nat), iv x.kind, iv x.to, iv x.op, iv x.mode, iv x.node, iv x.psn, iv ((k + 1 : Nat) : Int)] [.v (lineV 1 s.line), olv 3 s.line, .v (stsV sts cp), oord 6 c o, .v (pt 6 (k * 6))] [encL s.line, encS sts, encOrds o]) (dB2 s sts cp o c i (k + 1)) ⟨[(.len 28 (ch 3), sv 42), kt .lss 3 (sv 41) (sv 42), (.ixa 28 (ch 3) (sv 41), ch 4), kf .eql 43 (sv 43) (iv 6), kt .neq 43 (sv 43) (iv 6), kf .lss 2 (sv 45) (iv 1), kf .gtr 2 (sv 45) (sv 39), kf .eql 43 (sv 43) (iv 1), kf .eql 43 (sv 43) (iv 3), (.bin .add 3 (sv 41) (iv 1), sv 49)], [⟨45, 4, 6, 2, .agg #[sv 43, sv 44, sv 45, sv 46, sv 47, sv 48]⟩], []⟩ [] ⟨asLen u28 rfl (by kernel_rfl), qT ((k : Int) < (o.length : Int)), asIxaM u28 z45 rfl rfl (by omega) (by omega) rfl (by simp), eF x.kind 6, nT x.kind 6, qF (x.op < 1) (by have := hn6 (by omega); omega), qF (x.op > s.op) (by have := hn6 (by omega); omega), eF x.kind 1, eF x.kind 3, asP (u := iv ((k + 1 : Nat) : Int)) (Eq.trans (b := some (iv (IntKind.i64.wrap ((k : Int) + 1)))) (by kernel_rfl) (by rw [wrap_id (by omega) (by omega)]; rfl)) (by kernel_rfl), trivial⟩ ⟨ld_agg u45 z45 rfl (ord_in hget) (encOrds_at _ _ _ hget) rfl (by kernel_rfl), trivial⟩ trivial trivial 19 [(0, 0), (1, 1), (2, 2), (3, 3), (5, 5), (6, 6)] hg
theorem books_oe (hi : i < 1000) (hg : GB T sts (dB1 s sts cp (i + 1)) (xB1 T)) : GB T sts (dB2 s sts cp o c i o.length) (xB2 T) := by
  · exact gS (ds s [iv (i : Nat), iv (o.length : Nat), iv ((i + 1 : Nat) : Int)] [.v (lineV 1 s.line), olv 3 s.line, .v (stsV sts cp), oord 6 c o] [encL s.line, encS sts, encOrds o]) (dB1 s sts cp (i + 1)) ⟨[(.len 28 (ch 3), sv 41), kf .lss 3 (sv 41) (sv 41), (.bin .add 3 (sv 40) (iv 1), sv 42)], [], []⟩ [] ⟨asLen u28 rfl (by kernel_rfl), qF ((o.length : Int) < (o.length : Int)), asP (u := iv ((i + 1 : Nat) : Int)) (Eq.trans (b := some (iv (IntKind.i64.wrap ((i : Int) + 1)))) (by kernel_rfl) (by rw [wrap_id (by omega) (by omega)]; rfl)) (by kernel_rfl), trivial⟩ trivial trivial trivial 10 [(0, 0), (1, 1), (2, 2), (3, 3), (5, 5)] hg
theorem books_os (hi : i < 1000) (ho : o.length < 100000) (hx : ∀ x ∈ o, OrdOk s x) (hg : GB T sts (dB1 s sts cp (i + 1)) (xB1 T)) : ∀ (j k : Nat), k + j = o.length → GB T sts (dB2 s sts cp o c i k) (xB2 T)
  | 0, k, h => by
    have : k = o.length := by omega
    subst this; exact books_oe hi hg
  | j + 1, k, h => by
    have h1 : k < o.length := by omega
    exact books_ord ho (x := o[k]) (by simp [h1]) (hx _ (List.getElem_mem h1)) (books_os hi ho hx hg j (k + 1) (by omega))
theorem books_all {J : St → Prop} (hJ : ∀ (s : St) (k n m op psn : Int), J s → s.op + s.line.length ≤ 900 → J (doM s k n m op psn).1 ∧ BookOk s (doM s k n m op psn).1 ∧ ∀ x ∈ (doM s k n m op psn).2, OrdOk (doM s k n m op psn).1 x) (hP : ∀ s, J s → P2 s) (hs : sts.length ≤ 200) : ∀ (j i : Nat) (s : St), i + j = sts.length → J s → s.op + s.line.length ≤ i → GB T sts (dB1 s sts cp i) (xB1 T)
  | 0, i, s, h, _, _ => by
    have : i = sts.length := by omega
    subst this; exact books_end
  | j + 1, i, s, h, hp, hb => by
    have hi : i < sts.length := by omega
    obtain ⟨hd, hp', hr⟩ := do_ctr (hP s hp) (by omega) (stAt sts i).k (stAt sts i).n (stAt sts i).m (stAt sts i).op (stAt sts i).psn
    obtain ⟨hj, hbk, hos⟩ := hJ s (stAt sts i).k (stAt sts i).n (stAt sts i).m (stAt sts i).op (stAt sts i).psn hp (by omega)
    obtain ⟨c1, c2, _, _, hD⟩ := hd.get
    have h1 := hr.tot
    have h2 := hr.len
    have h3 := (hP s hp).post.inv.op
    have h4 := hp'.post.inv.op
    exact books_step hi hbk (by omega) hD (books_os (by omega) (by omega) hos (books_all hJ hP hs j (i + 1) _ (by omega) hj (by omega)) _ 0 (Nat.zero_add _))
theorem books_ctr {J : St → Prop} (hJ : ∀ (s : St) (k n m op psn : Int), J s → s.op + s.line.length ≤ 900 → J (doM s k n m op psn).1 ∧ BookOk s (doM s k n m op psn).1 ∧ ∀ x ∈ (doM s k n m op psn).2, OrdOk (doM s k n m op psn).1 x) (hP : ∀ s, J s → P2 s) (h0 : J newS) (T : TypeId) (sts : List Stp) (cp : Nat) : Ctr Try.prog 7 [.slice (some ⟨5, 0, none⟩) sts.length cp] [(5, .row T (.lst (encS sts)) true)] (.bool true) [] := by
  have hgo : sts.length ≤ 200 → GB T sts (dB1 newS sts cp 0) (xB1 T) := fun hs => books_all hJ hP hs sts.length 0 newS (Nat.zero_add _) h0 (by decide)
  · by_cases h0 : (((sts.length : Nat)) : Int) > (200)
    · exact Ctr.of_goodS (d := (ds newS [iv (sts.length : Nat)] [.v (lineV 1 []), olv 3 [], .v (stsV sts cp)] [encL [], encS sts])) [] (c0 := 6) (A0 := hP0 T) (args0 := [ch 2]) (by kernel_rfl) (by kernel_rfl) (by kernel_rfl) (@goodS_fin (ds newS [iv (sts.length : Nat)] [.v (lineV 1 []), olv 3 [], .v (stsV sts cp)] [encL [], encS sts]) Try.prog mixed ⟨[(.len 22 (ch 2), sv 40), kt .gtr 3 (sv 40) (iv 200)], [], []⟩ [(12, [eKn 6])] ⟨asLen u22 rfl (by kernel_rfl), qT ((((sts.length : Nat)) : Int) > 200), trivial⟩ trivial trivial ⟨oe known_ctr, trivial⟩ 100 7 7 _ _ _ _ _ [] [] (by kernel_rfl) (by kernel_rfl))
    · refine Ctr.of_goodS (d := (ds newS [iv (sts.length : Nat)] [.v (lineV 1 []), olv 3 [], .v (stsV sts cp)] [encL [], encS sts])) [] (c0 := 6) (A0 := hP0 T) (args0 := [ch 2]) (by kernel_rfl) (by kernel_rfl) (by kernel_rfl) ?_
      exact @goodS_seg (ds newS [iv (sts.length : Nat)] [.v (lineV 1 []), olv 3 [], .v (stsV sts cp)] [encL [], encS sts]) (dB1 newS sts cp 0) Try.prog mixed ⟨[(.len 22 (ch 2), sv 40), kf .gtr 3 (sv 40) (iv 200)], [], []⟩ [(13, [eNewP 6]), (14, [eNewR 8])] ⟨asLen u22 rfl (by kernel_rfl), qF ((((sts.length : Nat)) : Int) > 200), trivial⟩ trivial trivial ⟨oe new_ctr, oe newR_ctr, trivial⟩ 100 17 7 _ _ _ _ _ [(6, 0), (7, 1), (8, 2), (9, 3), (5, 5)] [] _ _ _ _ _ _ (by kernel_rfl) (by kernel_rfl) (by kernel_rfl) (hgo (by omega))
end
theorem books_nil : Ctr Try.prog 7 [.slice none 0 0] [] (.bool true) [] :=
  Ctr.path mixed (dr newS [] [] []) ⟨[], [], []⟩ [(12, [eKn 3])] trivial trivial trivial ⟨oe known_ctr, trivial⟩
    (N := 400) (c0 := 0) (A0 := []) (args0 := [.slice none 0 0]) (τ := []) (ros := []) (by kernel_rfl) (by kernel_rfl) (by kernel_rfl)
theorem books_zero : Ctr Try.prog 7 [.slice (some ⟨5, 0, none⟩) 0 0] [(5, .dead)] (.bool true) [(5, .dead)] :=
  Ctr.path mixed (dr newS [] [] []) ⟨[], [], []⟩ [(12, [eKn 9])] trivial trivial trivial ⟨oe known_ctr, trivial⟩
    (N := 400) (c0 := 6) (A0 := [(5, .dead)]) (args0 := [.slice (some ⟨5, 0, none⟩) 0 0]) (τ := [(5, 5)]) (ros := []) (by kernel_rfl) (by kernel_rfl) (by kernel_rfl)
end Go.Proofs.Ytjpgnjaobfbojaa
namespace Go.Proofs.Ytjpgnjaobfbojaa
open Go.Sx
theorem lt_none {f : Nat → Bool} : ∀ (k : Nat), listTo f k = [] → ∀ n, n < k → f n = false
  | 0, _, n, h => by omega
  | k + 1, h, n, hn => by
    simp only [listTo] at h
    by_cases hk : f k = true
    · rw [if_pos hk] at h; simp at h
    · rw [if_neg hk] at h
      by_cases e : n = k
      · subst e; simpa using hk
      · exact lt_none k h n (by omega)
theorem lt_nil {f : Nat → Bool} : ∀ (k : Nat), (∀ n, n < k → f n = false) → listTo f k = []
  | 0, _ => rfl
  | k + 1, h => by
    simp only [listTo]
    rw [if_neg (by rw [h k (by omega)]; decide)]
    exact lt_nil k fun n hn => h n (by omega)
def Ex (s : St) : Prop := 0 ≤ s.x → (∀ n, n < 8 → s.sh n = false) ∧ s.owner = s.x
def Su1 (s : St) : Prop := s.wt = 2 → s.hk = 1 → 0 ≤ s.x → s.su = s.x
structure BR (s : St) (r : St × List Ord) : Prop where
  x : r.1.x = s.x
  sh : r.1.sh = s.sh
  owner : r.1.owner = s.owner
  opp : r.1.wt ≠ 0 → 1 ≤ r.1.op
  su1 : Su1 r.1
  ords : ∀ x ∈ r.2, OrdOk r.1 x
theorem BR.of {s u : St} {r : St × List Ord} (h : BR u r) (h1 : u.x = s.x) (h2 : u.sh = s.sh) (h3 : u.owner = s.owner) : BR s r := ⟨h.x.trans h1, h.sh.trans h2, h.owner.trans h3, h.opp, h.su1, h.ords⟩
theorem Ex.of {s t : St} (h : Ex s) (h1 : t.x = s.x) (h2 : t.sh = s.sh) (h3 : t.owner = s.owner) : Ex t := fun hx => by
  rw [h1] at hx
  rw [h2, h3, h1]
  exact h hx
theorem ordOk_six {s : St} {x : Ord} (h1 : x.kind = 6) (h2 : x.op = 0) : OrdOk s x := ⟨fun _ => h2, fun h => absurd h1 h, fun h => by omega, fun h => by omega⟩
theorem ordOk_no {s : St} {k to op mode node psn : Int} (h6 : k ≠ 6) (hg : k ≠ 1 ∨ mode ≠ 2) (hy : k ≠ 3) (hop : 1 ≤ op ∧ op ≤ s.op) : OrdOk s ⟨k, to, op, mode, node, psn⟩ := ⟨fun h => absurd h h6, fun _ => hop, fun h h' => hg.elim (absurd h) (absurd h'), fun h => absurd h hy⟩
theorem ordOk_g {s : St} {to op mode node psn : Int} (hop : 1 ≤ op ∧ op ≤ s.op) (hg : ∀ n : Nat, n < 8 → (holdsM s n).2 = true → (n : Int) = to) : OrdOk s ⟨1, to, op, mode, node, psn⟩ := ⟨fun h => (by cases h), fun _ => hop, fun _ _ => hg, fun h => (by cases h)⟩
theorem ordOk_y {s : St} {to op mode node psn : Int} (hop : 1 ≤ op ∧ op ≤ s.op) (hy : ∀ n : Nat, n < 8 → (holdsM s n).2 = true → (n : Int) = node ∨ (n : Int) = to) : OrdOk s ⟨3, to, op, mode, node, psn⟩ := ⟨fun h => (by cases h), fun _ => hop, fun h => (by cases h), fun _ => hy⟩
theorem supplyP_x {s : St} (hx : -1 ≤ s.x) (h : 0 ≤ s.x) : supplyP s = s.x := by
  unfold supplyP
  rw [if_neg (by omega)]
theorem holds_two {s : St} {n : Nat} {a b : Int} (hn : n < 8) (hx : 0 ≤ s.x → s.x = a ∨ s.x = b) (hs : s.sh n = true → (n : Int) = a ∨ (n : Int) = b) (h : (holdsM s n).2 = true) : (n : Int) = a ∨ (n : Int) = b := by
  unfold holdsM at h
  rw [if_pos (by omega), if_pos (by omega)] at h
  by_cases h1 : s.x = n
  · have := hx (by omega)
    rw [h1] at this; exact this
  · rw [if_neg h1] at h
    have e : ((n : Int)).toNat = n := by omega
    rw [e] at h
    by_cases h2 : s.sh n = true
    · exact hs h2
    · rw [if_neg h2] at h; cases h
section
variable {s : St} {nx : St → St × List Ord}
theorem beginS_BR (hv : Inv s) (h1 : s.hk = 1) (hop : 1 ≤ s.op) (hn : BR (reset s) (nx (reset s))) : BR s (beginS nx s) := by
  unfold beginS
  split
  · exact hn.of rfl rfl rfl
  · split
    · exact hn.of rfl rfl rfl
    · refine ⟨rfl, rfl, rfl, fun _ => hop, fun _ _ hx => supplyP_x hv.x.1 hx, fun x hx => ?_⟩
      obtain rfl := List.mem_singleton.1 hx
      split
      · exact ordOk_no (by decide) (.inr (by decide)) (by decide) ⟨hop, Int.le_refl _⟩
      · exact ordOk_no (by decide) (.inl (by decide)) (by decide) ⟨hop, Int.le_refl _⟩
theorem onM_BR (hi : Hand s) (hx0 : -1 ≤ s.x) (hsu0 : -1 ≤ s.su) (h2 : s.hk = 2) (hop : 1 ≤ s.op) (hsu : 0 ≤ s.x → s.su = s.x) (hl : listTo (goneM s) 8 = []) : BR s (onM s) := by
  have hg := lt_none 8 hl
  have h0 := hi.1
  refine ⟨rfl, rfl, rfl, fun _ => hop, fun _ h => absurd (h2.symm.trans h) (by decide), fun x hx => ?_⟩
  obtain rfl := List.mem_singleton.1 hx
  split
  · rename_i hs
    refine ordOk_g ⟨hop, Int.le_refl _⟩ fun n hn hh => ?_
    have := holds_two (s := { s with wt := 2 }) (a := s.hn) (b := s.hn) hn (fun h => by have : s.su = s.x := hsu h; have : 0 ≤ s.x := h; omega) (fun h => ?_) hh
    · exact this.elim id id
    · have h3 := hg n hn
      unfold goneM at h3
      rw [if_pos hs] at h3
      unfold upd at h3
      by_cases e : n = s.hn.toNat
      · left; omega
      · rw [if_neg e] at h3
        have h4 : s.sh n = true := h
        rw [h4] at h3; cases h3
  · rename_i hs
    refine ordOk_y ⟨hop, Int.le_refl _⟩ fun n hn hh => ?_
    refine holds_two (s := { s with wt := 2 }) (a := s.hn) (b := s.su) hn (fun h => .inr (hsu h).symm) (fun h => ?_) hh
    have h3 := hg n hn
    unfold goneM at h3
    rw [if_neg hs] at h3
    unfold upd at h3
    by_cases e2 : n = s.su.toNat
    · right; omega
    · rw [if_neg e2] at h3
      by_cases e : n = s.hn.toNat
      · left; omega
      · rw [if_neg e] at h3
        have h4 : s.sh n = true := h
        rw [h4] at h3; cases h3
theorem beginE_BR (hv : Inv s) (hi : Hand s) (h2 : s.hk = 2) (hop : 1 ≤ s.op) (hn : BR (reset s) (nx (reset s))) : BR s (beginE nx s) := by
  unfold beginE
  split
  · exact hn.of rfl rfl rfl
  · dsimp only
    have hb := supply_bound hv
    split
    · rename_i hl
      exact (onM_BR (s := { s with su := supplyP s, go := goneM { s with su := supplyP s } }) hi hv.x.1 hb.1 h2 hop (fun h => supplyP_x hv.x.1 h) hl).of rfl rfl rfl
    · refine ⟨rfl, rfl, rfl, fun _ => hop, fun h => absurd h (by show ¬ (1 : Int) = 2; decide), fun x hx => ?_⟩
      obtain ⟨n, _, rfl⟩ := List.mem_map.1 hx
      exact ordOk_no (by decide) (.inl (by decide)) (by decide) ⟨hop, Int.le_refl _⟩
theorem needM_BR (hn : ∀ pa, BR (reset { s with pa := pa }) (nx (reset { s with pa := pa }))) : BR s (needM nx s) := by
  have h := hn (upd s.pa s.hn.toNat false)
  refine ⟨h.x, h.sh, h.owner, h.opp, h.su1, fun x hx => ?_⟩
  rcases List.mem_cons.1 hx with rfl | hx
  · exact ordOk_six rfl rfl
  · exact h.ords x hx
theorem beginM_BR (hv : Inv s) (hi : Hand s) (hop : 1 ≤ s.op) (hn : ∀ pa, BR (reset { s with pa := pa }) (nx (reset { s with pa := pa }))) : BR s (beginM nx s) := by
  unfold beginM
  split
  · rename_i h; exact beginS_BR hv h hop (hn s.pa)
  · split
    · rename_i h; exact beginE_BR hv hi h hop (hn s.pa)
    · rename_i h1 h2
      unfold beginC
      split
      · exact (needM_BR (s := { s with pa := upd s.pa s.hn.toNat true }) hn).of rfl rfl rfl
      · refine ⟨rfl, rfl, rfl, fun _ => hop, fun h => absurd h (by show ¬ (3 : Int) = 2; decide), fun x hx => ?_⟩
        obtain rfl := List.mem_singleton.1 hx
        exact ordOk_no (by decide) (.inl (by decide)) (by decide) ⟨hop, Int.le_refl _⟩
end
theorem next_BR : ∀ (n : Nat) (s : St), Inv s → s.wt = 0 → BR s (nextM n s)
  | 0, s, _, hw => ⟨rfl, rfl, rfl, fun h => absurd hw h, fun h => (by rw [show (nextM 0 s).1.wt = 0 from hw] at h; cases h), fun x hx => by cases hx⟩
  | n + 1, s, hv, hw => by
    unfold nextM
    split
    · exact ⟨rfl, rfl, rfl, fun h => absurd hw h, fun h => (by rw [show s.wt = 0 from hw] at h; cases h), fun x hx => by cases hx⟩
    · rename_i w rest hs
      have hwl := hv.line w (by rw [hs]; exact List.mem_cons_self)
      have hop := hv.op
      rw [hs] at hop
      simp only [List.length_cons] at hop
      have hvu : ∀ pa, Inv { s with hn := w.1, hk := w.2, line := rest, op := s.op + 1, pa := pa } := fun pa => ⟨hv.x, hv.owner, hv.su, by show 0 ≤ s.op + 1 ∧ s.op + 1 + rest.length < 4611686018427387904; omega, fun v hv' => hv.line v (by rw [hs]; exact List.mem_cons_of_mem _ hv')⟩
      exact (beginM_BR (nx := nextM n) (s := { s with hn := w.1, hk := w.2, line := rest, op := s.op + 1 }) (hvu s.pa) ⟨hwl.1, hwl.2.1⟩ (by show 1 ≤ s.op + 1; omega) (fun pa => next_BR n _ (reset_inv (hvu pa)) rfl)).of rfl rfl rfl
structure JB (s : St) : Prop where
  p2 : P2 s
  ex : Ex s
  opp : s.wt ≠ 0 → 1 ≤ s.op
  su1 : Su1 s
structure BS (r : St × List Ord) : Prop where
  ex : Ex r.1
  opp : r.1.wt ≠ 0 → 1 ≤ r.1.op
  su1 : Su1 r.1
  ords : ∀ x ∈ r.2, OrdOk r.1 x
theorem BR.toBS {s : St} {r : St × List Ord} (h : BR s r) (he : Ex s) : BS r := ⟨he.of h.x h.sh h.owner, h.opp, h.su1, h.ords⟩
section
variable {s : St} {n k m op psn : Int}
theorem JB.keep (h : JB s) : BS (s, []) := ⟨h.ex, h.opp, h.su1, fun x hx => by cases hx⟩
theorem next_BS (hv : Inv s) (hw : s.wt = 0) (he : Ex s) : BS (nextM FU s) := (next_BR FU s hv hw).toBS he
theorem wish_BS (h : JB s) (hb : s.op + s.line.length ≤ 900) (hn : 0 ≤ n ∧ n < 8) (hk : 1 ≤ k ∧ k ≤ 3) : BS (wishM s n k) := by
  have hop := h.p2.post.inv.op
  unfold wishM
  split
  · rename_i hw
    have ⟨hl, _⟩ := h.p2.post.idle hw
    have hop2 : 0 ≤ s.op ∧ s.op + ((1 : Nat) : Int) < 4611686018427387904 := by omega
    exact next_BS (s := { s with line := [(n, k)] }) ⟨h.p2.post.inv.x, h.p2.post.inv.owner, h.p2.post.inv.su, hop2, fun w hw => by
      obtain rfl := List.mem_singleton.1 hw
      exact ⟨hn.1, hn.2, hk.1, hk.2⟩⟩ hw h.ex
  · split
    · exact h.keep
    · split
      · exact h.keep
      · exact ⟨h.ex, h.opp, h.su1, fun x hx => by cases hx⟩
theorem left_BS (hv : Inv s) (hi : Hand s) (h2 : s.hk = 2) (hw : s.wt = 1) (hop : 1 ≤ s.op) (he : Ex s) : BS (leftM s n) := by
  have hv' : Inv (leftS s n) := ⟨hv.x, hv.owner, hv.su, hv.op, hv.line⟩
  have he' : Ex (leftS s n) := fun hx => ⟨fun i hi => (by
    show upd s.sh n.toNat false i = false
    unfold upd
    split
    · rfl
    · exact (he hx).1 i hi), (he hx).2⟩
  unfold leftM
  split
  · exact (beginE_BR (nx := nextM FU) hv' hi h2 hop (next_BR FU _ (reset_inv hv') rfl)).toBS he'
  · exact ⟨he', fun _ => hop, fun h => (by rw [show (leftS s n).wt = 1 from hw] at h; cases h), fun x hx => by cases hx⟩
theorem gotS_Ex (h : JB s) (hw : s.wt = 2) : Ex (gotS s n op) := by
  have hsu := h.su1 hw
  have hx0 := h.p2.post.inv.x.1
  unfold gotS
  split
  · rename_i h1
    split
    · rename_i h3
      intro hx
      have : s.su = s.x := hsu h1 hx
      have : 0 ≤ s.x := hx
      omega
    · split
      · intro hx; exact absurd hx (by show ¬ (0 : Int) ≤ -1; decide)
      · split
        · intro hx; exact absurd hx (by show ¬ (0 : Int) ≤ -1; decide)
        · rename_i h4 _
          intro hx
          have : s.su = s.x := hsu h1 hx
          exact absurd this.symm h4
  · split
    · exact fun _ => ⟨fun _ _ => rfl, rfl⟩
    · split
      · exact fun _ => ⟨fun _ _ => rfl, rfl⟩
      · exact fun _ => ⟨fun _ _ => rfl, rfl⟩
theorem got_BS (h : JB s) : BS (gotM s n op) := by
  unfold gotM
  split
  · rename_i hc
    have ⟨b1, _⟩ := h.p2.post.busy (by rw [hc.1]; decide)
    have ⟨hv, _, _⟩ := gotS_inv (n := n) (op := op) h.p2.post.inv (by have := b1.1; have := b1.2; omega)
    exact next_BS (reset_inv hv) rfl ((gotS_Ex h hc.1).of rfl rfl rfl)
  · exact h.keep
theorem relS_Ex (he : Ex s) (hx0 : -1 ≤ s.x) (hn : 0 ≤ n) : Ex (relS s n) := by
  intro hx
  have hx' : 0 ≤ (if s.x = n then (-1 : Int) else s.x) := hx
  by_cases e : s.x = n
  · rw [if_pos e] at hx'; omega
  · rw [if_neg e] at hx'
    have ⟨h1, h2⟩ := he hx'
    refine ⟨fun i hi => ?_, ?_⟩
    · show upd s.sh n.toNat false i = false
      unfold upd
      split
      · rfl
      · exact h1 i hi
    · show (if s.owner = n then (-1 : Int) else s.owner) = (if s.x = n then (-1 : Int) else s.x)
      rw [h2]
theorem rel_BS (h : JB s) (hb : s.op + s.line.length ≤ 900) : BS (relM s n op) := by
  have hop := h.p2.post.inv.op
  have hv := relS_inv (n := n) h.p2.post.inv
  unfold relM
  split
  · rename_i hn
    have he := relS_Ex h.ex h.p2.post.inv.x.1 hn.1
    split
    · rename_i h1
      have ⟨b1, _⟩ := h.p2.post.busy (by rw [h1.1]; decide)
      exact left_BS (s := relS s n) hv b1 (h.p2.kd.1 h1.1) h1.1 (h.opp (by rw [h1.1]; decide)) he
    · split
      · rename_i h2
        have ⟨b1, _⟩ := h.p2.post.busy (by rw [h2.1]; decide)
        have hv' : Inv { relS s n with op := s.op + 1 } := ⟨hv.x, hv.owner, hv.su, by show 0 ≤ s.op + 1 ∧ s.op + 1 + s.line.length < 4611686018427387904; omega, hv.line⟩
        split
        · rename_i hk
          exact (beginS_BR (nx := nextM FU) (s := { relS s n with op := s.op + 1 }) hv' hk (by show 1 ≤ s.op + 1; omega) (next_BR FU _ (reset_inv hv') rfl)).toBS he
        · rename_i hk
          exact (beginE_BR (nx := nextM FU) (s := { relS s n with op := s.op + 1 }) hv' b1 ((h.p2.kd.2 h2.1).resolve_left hk) (by show 1 ≤ s.op + 1; omega) (next_BR FU _ (reset_inv hv') rfl)).toBS he
      · split
        · exact (needM_BR (nx := nextM FU) (s := relS s n) fun pa => next_BR FU _ (reset_inv (invPa hv pa)) rfl).toBS he
        · refine ⟨he, h.opp, fun h1 h2 h3 => ?_, fun x hx => by cases hx⟩
          have h3' : 0 ≤ (if s.x = n then (-1 : Int) else s.x) := h3
          show s.su = (if s.x = n then (-1 : Int) else s.x)
          by_cases e : s.x = n
          · rw [if_pos e] at h3'; omega
          · rw [if_neg e] at h3' ⊢; exact h.su1 h1 h2 h3'
  · exact h.keep
theorem discs_ok {t : St} {l : List Int} : ∀ x ∈ discs psn l, OrdOk t x := fun x hx => by
  obtain ⟨p, _, rfl⟩ := List.mem_map.1 hx
  exact ordOk_six rfl rfl
theorem wroteS_Ex (he : Ex s) (ho : s.owner = n) : Ex (wroteS s n) := fun hx => by
  have ⟨h1, h2⟩ := he hx
  refine ⟨h1, ?_⟩
  show (if s.x = n then s.owner else (-1 : Int)) = s.x
  rw [if_pos (by rw [← h2, ho]), h2]
theorem wrote_BS (h : JB s) : BS (wroteM s n op psn) := by
  unfold wroteM
  split
  · split
    · rename_i h1
      have b := next_BS (s := reset (wroteS s n)) (reset_inv (wroteS_inv h.p2.post.inv)) rfl ((wroteS_Ex h.ex h1.1).of rfl rfl rfl)
      refine ⟨b.ex, b.opp, b.su1, fun x hx => ?_⟩
      rcases List.mem_append.1 hx with hx | hx
      · exact discs_ok x hx
      · exact b.ords x hx
    · have he : Ex (wroteT s n op) := by
        unfold wroteT
        split
        · rename_i ho
          split
          · exact wroteS_Ex h.ex ho
          · exact h.ex
        · exact h.ex
      have hs : Su1 (wroteT s n op) := by
        unfold wroteT
        split
        · split
          · exact h.su1
          · exact h.su1
        · exact h.su1
      have ho : (wroteT s n op).wt ≠ 0 → 1 ≤ (wroteT s n op).op := by
        unfold wroteT
        split
        · split
          · exact h.opp
          · exact h.opp
        · exact h.opp
      exact ⟨he, ho, hs, discs_ok⟩
  · exact h.keep
theorem do_BS (h : JB s) (hb : s.op + s.line.length ≤ 900) : BS (doM s k n m op psn) := by
  unfold doM
  split
  · unfold wantM
    split
    · rename_i hc; exact wish_BS h hb hc.1 (by omega)
    · exact h.keep
  split
  · unfold cleanM
    split
    · rename_i hc; exact wish_BS h hb hc (by omega)
    · exact h.keep
  split
  · unfold goneMM
    split
    · rename_i hc
      have ⟨b1, _⟩ := h.p2.post.busy (by rw [hc.2.1]; decide)
      exact left_BS h.p2.post.inv b1 (h.p2.kd.1 hc.2.1) hc.2.1 (h.opp (by rw [hc.2.1]; decide)) h.ex
    · exact h.keep
  split
  · exact got_BS h
  split
  · exact rel_BS h hb
  split
  · exact wrote_BS h
  · exact h.keep
end
theorem books_plain (s : St) (k n m op psn : Int) (h : JB s) (hb : s.op + s.line.length ≤ 900) : JB (doM s k n m op psn).1 ∧ BookOk s (doM s k n m op psn).1 ∧ ∀ x ∈ (doM s k n m op psn).2, OrdOk (doM s k n m op psn).1 x := by
  have b := do_BS (k := k) (n := n) (m := m) (op := op) (psn := psn) h hb
  obtain ⟨_, hp, hr⟩ := do_ctr h.p2 hb k n m op psn
  exact ⟨⟨hp, b.ex, b.opp, b.su1⟩, ⟨fun hx => ⟨lt_nil 8 (b.ex hx).1, (b.ex hx).2⟩, hr.op, fun hw => (hp.post.idle hw).1⟩, b.ords⟩
theorem newS_JB : JB newS := ⟨newS_P2, fun h => absurd h (by decide), fun h => absurd rfl h, fun h => absurd h (by decide)⟩
theorem books_all_ctr (T : TypeId) (sts : List Stp) (cp : Nat) : Ctr Try.prog 7 [.slice (some ⟨5, 0, none⟩) sts.length cp] [(5, .row T (.lst (encS sts)) true)] (.bool true) [] := books_ctr books_plain (fun _ h => h.p2) newS_JB T sts cp
end Go.Proofs.Ytjpgnjaobfbojaa

import Derived.Test.YtjpgnjaobfbojaaQl
namespace Go.Proofs.Ytjpgnjaobfbojaa
open Go.Sx
def Kd (s : St) : Prop := (s.wt = 1 → s.hk = 2) ∧ (s.wt = 2 → s.hk = 1 ∨ s.hk = 2)
theorem Kd.idle {s : St} (h : s.wt = 0) : Kd s := ⟨fun h1 => by omega, fun h1 => by omega⟩
theorem Kd.of {s t : St} (h : Kd s) (h1 : t.wt = s.wt) (h2 : t.hk = s.hk) : Kd t := by unfold Kd; rw [h1, h2]; exact h
theorem beginS_K {nx : St → St × List Ord} {s : St} (hk : s.hk = 1) (hn : ∀ s, s.wt = 0 → Kd (nx s).1) : Kd (beginS nx s).1 := by
  unfold beginS
  split
  · exact hn _ rfl
  · split
    · exact hn _ rfl
    · exact ⟨fun h => absurd h (by show ¬ (2 : Int) = 1; omega), fun _ => .inl hk⟩
theorem beginE_K {nx : St → St × List Ord} {s : St} (hk : s.hk = 2) (hn : ∀ s, s.wt = 0 → Kd (nx s).1) : Kd (beginE nx s).1 := by
  unfold beginE
  split
  · exact hn _ rfl
  · dsimp only
    split
    · exact ⟨fun _ => hk, fun _ => .inr hk⟩
    · exact ⟨fun _ => hk, fun h => absurd h (by show ¬ (1 : Int) = 2; omega)⟩
theorem needM_K {nx : St → St × List Ord} {s : St} (hn : ∀ s, s.wt = 0 → Kd (nx s).1) : Kd (needM nx s).1 := hn _ rfl
theorem beginM_K {nx : St → St × List Ord} {s : St} (hn : ∀ s, s.wt = 0 → Kd (nx s).1) : Kd (beginM nx s).1 := by
  unfold beginM
  split
  · rename_i h; exact beginS_K h hn
  · split
    · rename_i h; exact beginE_K h hn
    · unfold beginC
      split
      · exact needM_K hn
      · exact ⟨fun h => absurd h (by show ¬ (3 : Int) = 1; omega), fun h => absurd h (by show ¬ (3 : Int) = 2; omega)⟩
theorem next_K : ∀ (n : Nat) (s : St), s.wt = 0 → Kd (nextM n s).1
  | 0, _, h => .idle h
  | n + 1, s, h => by
    unfold nextM
    split
    · exact .idle h
    · exact beginM_K (next_K n)
structure P2 (s : St) : Prop where
  post : Post s
  kd : Kd s
theorem lenFU {u : St} (hv : Inv u) (hl : u.line.length ≤ 1000) (pa : Nat → Bool) : (nextM FU (reset { u with pa := pa })).2.length < 1000000 := by
  have h := (next_of hv hl pa).2.len
  have e : (reset { u with pa := pa }).line.length = u.line.length := rfl
  rw [e] at h
  exact Nat.lt_of_le_of_lt h (by omega)
theorem doneFU {u : St} (hv : Inv u) (hl : u.line.length ≤ 1000) : RC 89 [] u (nextM FU (reset u)).1 (nextM FU (reset u)).2 := doneR FU u hl (by unfold FU; omega) hv
theorem invPa {u : St} (hv : Inv u) (pa : Nat → Bool) : Inv { u with pa := pa } := ⟨hv.x, hv.owner, hv.su, hv.op, hv.line⟩
theorem beginFU {u : St} (hv : Inv u) (hi : Hand u) (hk : 1 ≤ u.hk ∧ u.hk ≤ 3) (hl : u.line.length ≤ 1000) : RC 91 [] u (beginM (nextM FU) u).1 (beginM (nextM FU) u).2 :=
  beginR_ctr hv hi hk (lenFU hv hl) fun pa => doneFU (invPa hv pa) hl
theorem beginFU_S {u : St} (hv : Inv u) (hi : Hand u) (hk : u.hk = 1) (hl : u.line.length ≤ 1000) : RC 91 [] u (beginS (nextM FU) u).1 (beginS (nextM FU) u).2 := by
  have h := beginFU hv hi (by omega) hl
  unfold beginM at h
  rw [if_pos hk] at h
  exact h
theorem beginFU_E {u : St} (hv : Inv u) (hi : Hand u) (hk : u.hk = 2) (hl : u.line.length ≤ 1000) : RC 91 [] u (beginE (nextM FU) u).1 (beginE (nextM FU) u).2 := by
  have h := beginFU hv hi (by omega) hl
  unfold beginM at h
  rw [if_neg (by omega), if_pos hk] at h
  exact h
theorem needFU {u : St} (hv : Inv u) (hi : Hand u) (hl : u.line.length ≤ 1000) : RC 92 [] u (needM (nextM FU) u).1 (needM (nextM FU) u).2 := needlessR hi (lenFU hv hl _) (doneFU (invPa hv _) hl)
section
variable {s : St}
theorem wishR_out {n k : Int} (ho : ¬ (0 ≤ n ∧ n < 8)) : RC 55 [.agg #[.int .i64 n, .int .i64 k]] s s [] := by
  by_cases h : n < 0
  · exact wishR_lo h
  · exact wishR_hi (by omega) (by omega)
theorem wishR_ctr {n k : Int} (hp : Post s) (hb : s.op + s.line.length ≤ 900) (hn : 0 ≤ n ∧ n < 8) (hk : 1 ≤ k ∧ k ≤ 3) : RC 55 [.agg #[.int .i64 n, .int .i64 k]] s (wishM s n k).1 (wishM s n k).2 := by
  have hop := hp.inv.op
  unfold wishM
  by_cases hw : s.wt = 0
  · rw [if_pos hw]
    have ⟨hl, hr⟩ := hp.idle hw
    have hv : Inv { s with line := [(n, k)] } := ⟨hp.inv.x, hp.inv.owner, hp.inv.su, by show 0 ≤ s.op ∧ s.op + ((1 : Nat) : Int) < 4611686018427387904; omega, fun w hw => by
      obtain rfl := List.mem_singleton.1 hw
      exact ⟨hn.1, hn.2, hk.1, hk.2⟩⟩
    have h := doneFU hv (by show 1 ≤ 1000; omega)
    have e : reset { s with line := [(n, k)] } = { s with line := [(n, k)] } := by
      have : reset { s with line := [(n, k)] } = { reset s with line := [(n, k)] } := rfl
      rw [this, hr]
    rw [e] at h
    have h2 := wishR_begin hn hw h
    have e2 : { s with line := [] } = s := by cases s; simp only at hl; subst hl; rfl
    rw [e2] at h2
    exact h2
  · rw [if_neg hw]
    by_cases hh : s.hn = n ∧ s.hk = k
    · rw [if_pos hh]; exact wishR_hand hn hw hh
    · rw [if_neg hh]
      cases hl : s.line with
      | nil =>
        have e : { s with line := [] } = s := by cases s; simp only at hl; subst hl; rfl
        have h := wishR_first (s := s) hn hw hh
        rw [e] at h
        rw [if_neg (by simp)]
        exact h
      | cons x l =>
        have e : { s with line := x :: l } = s := by cases s; simp only at hl; subst hl; rfl
        rw [hl] at hb
        have h := wishR_line (s := s) (x := x) (l := l) hn (by omega) hw hh
        rw [e] at h
        by_cases hm : (n, k) ∈ x :: l
        · rw [if_pos hm]
          rw [if_pos hm, e] at h
          exact h
        · rw [if_neg hm]
          rw [if_neg hm] at h
          exact h
theorem wantR_ctr {n m : Int} (hp : Post s) (hb : s.op + s.line.length ≤ 900) : RC 54 [.int .i64 n, .int .i64 m] s (wantM s n m).1 (wantM s n m).2 := by
  unfold wantM
  by_cases hm : m = 1 ∨ m = 2
  · by_cases hn : 0 ≤ n ∧ n < 8
    · rw [if_pos ⟨hn, hm⟩]
      have h := wishR_ctr (n := n) (k := m) hp hb hn (by omega)
      rcases hm with rfl | rfl
      · exact wantR_1 h
      · exact wantR_2 h
    · rw [if_neg (fun h => hn h.1)]
      rcases hm with rfl | rfl
      · exact wantR_1 (wishR_out hn)
      · exact wantR_2 (wishR_out hn)
  · rw [if_neg (fun h => hm h.2)]; exact wantR_out hm
theorem cleanR_ctr {n : Int} (hp : Post s) (hb : s.op + s.line.length ≤ 900) : RC 55 [.agg #[.int .i64 n, .int .i64 3]] s (cleanM s n).1 (cleanM s n).2 := by
  unfold cleanM
  by_cases hn : 0 ≤ n ∧ n < 8
  · rw [if_pos hn]; exact wishR_ctr hp hb hn (by omega)
  · rw [if_neg hn]; exact wishR_out hn
theorem awayR_ctr {n : Int} (hv : Inv s) (hh : Hand s) (hk : s.hk = 2) (hl : s.line.length ≤ 1000) (hn : 0 ≤ n ∧ n < 8) : RC 90 [.int .i64 n] s (leftM s n).1 (leftM s n).2 := by
  have hv' : Inv (leftS s n) := ⟨hv.x, hv.owner, hv.su, hv.op, hv.line⟩
  unfold leftM
  by_cases hg : allOff (upd s.go n.toNat false) = true
  · rw [if_pos hg]; exact awayR_all hn hg (beginFU_E hv' hh hk hl)
  · rw [if_neg hg]; exact awayR_more hn (Bool.eq_false_iff.2 hg)
theorem goneR_ctr {n op : Int} (hp : P2 s) (hb : s.op + s.line.length ≤ 900) : RC 56 [.int .i64 n, .int .i64 op] s (goneMM s n op).1 (goneMM s n op).2 := by
  have hop := hp.post.inv.op
  unfold goneMM
  by_cases h : (0 ≤ n ∧ n < 8) ∧ s.wt = 1 ∧ op = s.op ∧ s.go n.toNat = true
  · rw [if_pos h]
    have ⟨b1, _⟩ := hp.post.busy (by rw [h.2.1]; omega)
    exact wentR_in h (awayR_ctr hp.post.inv b1 (hp.kd.1 h.2.1) (by omega) h.1)
  · rw [if_neg h]; exact wentR_out h
theorem gotR_ctr {n op : Int} (hp : P2 s) (hb : s.op + s.line.length ≤ 900) : RC 57 [.int .i64 n, .int .i64 op] s (gotM s n op).1 (gotM s n op).2 := by
  have hop := hp.post.inv.op
  unfold gotM
  by_cases h : s.wt = 2 ∧ op = s.op ∧ n = s.hn
  · rw [if_pos h]
    have ⟨b1, _⟩ := hp.post.busy (by rw [h.1]; omega)
    have ⟨hv, e1, e2⟩ := gotS_inv (n := n) (op := op) hp.post.inv (by have := b1.1; have := b1.2; omega)
    have h2 := doneFU hv (by rw [e2]; omega)
    exact gotR_in b1 hp.post.inv.su h (by rw [gotR_eq hp.post.inv.su.1]; exact h2)
  · rw [if_neg h]
    exact gotR_out (fun h => (hp.post.busy (by rw [h]; omega)).1) hp.post.inv.su (fun h2 => h h2.2)
theorem relR_ctr {n op : Int} (hp : P2 s) (hb : s.op + s.line.length ≤ 900) : RC 59 [.int .i64 n, .int .i64 op] s (relM s n op).1 (relM s n op).2 := by
  have hop := hp.post.inv.op
  have hv := relS_inv (n := n) hp.post.inv
  unfold relM
  by_cases hn : 0 ≤ n ∧ n < 8
  · rw [if_pos hn]
    by_cases h1 : s.wt = 1 ∧ s.go n.toNat = true
    · rw [if_pos h1]
      have ⟨b1, _⟩ := hp.post.busy (by rw [h1.1]; omega)
      exact relR_left (by omega) ⟨hn, h1⟩ (awayR_ctr (s := relS s n) hv b1 (hp.kd.1 h1.1) (by show s.line.length ≤ 1000; omega) hn)
    · rw [if_neg h1]
      by_cases h2 : s.wt = 2 ∧ s.su = n ∧ op < s.op
      · rw [if_pos h2]
        have ⟨b1, _⟩ := hp.post.busy (by rw [h2.1]; omega)
        have hv' : Inv { relS s n with op := s.op + 1 } := ⟨hv.x, hv.owner, hv.su, by show 0 ≤ s.op + 1 ∧ s.op + 1 + s.line.length < 4611686018427387904; omega, hv.line⟩
        by_cases hk : s.hk = 1
        · rw [if_pos hk]
          exact relR_beg (by omega) ⟨hn, h2⟩ (beginFU_S hv' b1 hk (by show s.line.length ≤ 1000; omega))
        · rw [if_neg hk]
          exact relR_beg (by omega) ⟨hn, h2⟩ (beginFU_E hv' b1 ((hp.kd.2 h2.1).resolve_left hk) (by show s.line.length ≤ 1000; omega))
      · rw [if_neg h2]
        by_cases h3 : s.wt = 3 ∧ s.owner = n
        · rw [if_pos h3]
          have ⟨b1, _⟩ := hp.post.busy (by rw [h3.1]; omega)
          exact relR_need (by omega) ⟨hn, h3⟩ (needFU hv b1 (by show s.line.length ≤ 1000; omega))
        · rw [if_neg h3]; exact relR_nil ⟨hn, h1, h2, h3⟩
  · rw [if_neg hn]; exact relR_out hn
theorem wroteR_ctr {n op psn : Int} (hp : P2 s) (hb : s.op + s.line.length ≤ 900) : RC 60 [.int .i64 n, .int .i64 op, .int .i64 psn] s (wroteM s n op psn).1 (wroteM s n op psn).2 := by
  have hop := hp.post.inv.op
  unfold wroteM
  by_cases hn : (0 ≤ n ∧ n < 8) ∧ 0 ≤ psn ∧ psn ≤ 2147483647
  · rw [if_pos hn]
    by_cases h1 : s.owner = n ∧ s.ops n.toNat = op ∧ s.wt = 3
    · rw [if_pos h1]
      have hv := wroteS_inv (n := n) hp.post.inv
      exact wroteR_w hn h1 (lenFU hv (by show s.line.length ≤ 1000; omega) (wroteS s n).pa) (doneFU hv (by show s.line.length ≤ 1000; omega))
    · rw [if_neg h1]; exact wroteR_t hn h1
  · rw [if_neg hn]; exact wroteR_out hn
theorem wish_K {n k : Int} (hk : Kd s) : Kd (wishM s n k).1 := by
  unfold wishM
  split
  · rename_i h; exact next_K _ _ h
  · split
    · exact hk
    · split
      · exact hk
      · exact hk.of rfl rfl
theorem want_K {n m : Int} (hk : Kd s) : Kd (wantM s n m).1 := by
  unfold wantM
  split
  · exact wish_K hk
  · exact hk
theorem clean_K {n : Int} (hk : Kd s) : Kd (cleanM s n).1 := by
  unfold cleanM
  split
  · exact wish_K hk
  · exact hk
theorem left_K {n : Int} (h2 : s.hk = 2) (hk : Kd s) : Kd (leftM s n).1 := by
  unfold leftM
  split
  · exact beginE_K h2 (next_K _)
  · exact hk.of rfl rfl
theorem gone_K {n op : Int} (hk : Kd s) : Kd (goneMM s n op).1 := by
  unfold goneMM
  split
  · rename_i h; exact left_K (hk.1 h.2.1) hk
  · exact hk
theorem got_K {n op : Int} (hk : Kd s) : Kd (gotM s n op).1 := by
  unfold gotM
  split
  · exact next_K _ _ rfl
  · exact hk
theorem rel_K {n op : Int} (hk : Kd s) : Kd (relM s n op).1 := by
  unfold relM
  split
  · split
    · rename_i h; exact left_K (s := relS s n) (hk.1 h.1) (hk.of rfl rfl)
    · split
      · rename_i h
        split
        · rename_i h1; exact beginS_K h1 (next_K _)
        · rename_i h1; exact beginE_K ((hk.2 h.1).resolve_left h1) (next_K _)
      · split
        · exact needM_K (next_K _)
        · exact hk.of rfl rfl
  · exact hk
theorem wrote_K {n op psn : Int} (hk : Kd s) : Kd (wroteM s n op psn).1 := by
  unfold wroteM
  split
  · split
    · exact next_K _ _ rfl
    · show Kd (wroteT s n op)
      unfold wroteT
      split
      · split
        · exact hk.of rfl rfl
        · exact hk
      · exact hk
  · exact hk
end
end Go.Proofs.Ytjpgnjaobfbojaa
namespace Go.Proofs.Ytjpgnjaobfbojaa
open Go.Sx
set_option maxRecDepth 20000
def heldM (s : St) (n op : Int) : Int := if op = -2 then s.op else if op = -1 then (if n ≥ 0 then (if n < 8 then s.ops n.toNat else op) else op) else op
theorem held_ctr (s : St) (k n m op psn : Int) : Ctr Try.prog 58 (lockP ++ [.agg #[.int .i64 k, .int .i64 n, .int .i64 m, .int .i64 op, .int .i64 psn]]) (rlock 1 s) (.int .i64 (heldM s n op)) (rlock 1 s) := by
  · by_cases h0 : ((op) : Int) = (-2)
    · simp only [heldM, if_pos h0]
      exact pth (dr s [iv k, iv n, iv m, iv op, iv psn] [olv 1 s.line] [encL s.line]) ⟨[kt .eql 2 (sv 43) (iv (-2))], [], []⟩ [] ⟨eT op (-2), trivial⟩ trivial trivial trivial 2 (rlockL []) (lockP ++ [.agg #[sv 40, sv 41, sv 42, sv 43, sv 44]]) [(0, 0), (1, 1)]
    · by_cases h1 : ((op) : Int) = (-1)
      · by_cases h2 : ((n) : Int) ≥ (0)
        · by_cases h3 : ((n) : Int) < (8)
          · simp only [heldM, if_neg h0, if_pos h1, if_pos h2, if_pos h3]
            exact pth (dr s [iv k, iv n, iv m, iv op, iv psn, iv (s.ops n.toNat)] [olv 1 s.line, .v (pt 0 (18 + n.toNat))] [encL s.line]) ⟨[kf .eql 2 (sv 43) (iv (-2)), kt .eql 2 (sv 43) (iv (-1)), kt .geq 3 (sv 41) (iv 0), kt .lss 3 (sv 41) (iv 8), kx 30 0 18 41 1], [], [([2, 1000000], eLdR 1 3 [] 1 0 45)]⟩ [] ⟨eF op (-2), eT op (-1), qT (n ≥ 0), qT (n < 8), iA u30 z2 rfl rfl, trivial⟩ trivial ⟨ld (lops s s.line n.toNat), trivial⟩ trivial 2 (rlockL []) (lockP ++ [.agg #[sv 40, sv 41, sv 42, sv 43, sv 44]]) [(0, 0), (1, 1)]
          · simp only [heldM, if_neg h0, if_pos h1, if_pos h2, if_neg h3]
            exact pth (dr s [iv k, iv n, iv m, iv op, iv psn] [olv 1 s.line] [encL s.line]) ⟨[kf .eql 2 (sv 43) (iv (-2)), kt .eql 2 (sv 43) (iv (-1)), kt .geq 3 (sv 41) (iv 0), kf .lss 3 (sv 41) (iv 8)], [], []⟩ [] ⟨eF op (-2), eT op (-1), qT (n ≥ 0), qF (n < 8), trivial⟩ trivial trivial trivial 2 (rlockL []) (lockP ++ [.agg #[sv 40, sv 41, sv 42, sv 43, sv 44]]) [(0, 0), (1, 1)]
        · simp only [heldM, if_neg h0, if_pos h1, if_neg h2]
          exact pth (dr s [iv k, iv n, iv m, iv op, iv psn] [olv 1 s.line] [encL s.line]) ⟨[kf .eql 2 (sv 43) (iv (-2)), kt .eql 2 (sv 43) (iv (-1)), kf .geq 3 (sv 41) (iv 0)], [], []⟩ [] ⟨eF op (-2), eT op (-1), qF (n ≥ 0), trivial⟩ trivial trivial trivial 2 (rlockL []) (lockP ++ [.agg #[sv 40, sv 41, sv 42, sv 43, sv 44]]) [(0, 0), (1, 1)]
      · simp only [heldM, if_neg h0, if_neg h1]
        exact pth (dr s [iv k, iv n, iv m, iv op, iv psn] [olv 1 s.line] [encL s.line]) ⟨[kf .eql 2 (sv 43) (iv (-2)), kf .eql 2 (sv 43) (iv (-1))], [], []⟩ [] ⟨eF op (-2), eF op (-1), trivial⟩ trivial trivial trivial 2 (rlockL []) (lockP ++ [.agg #[sv 40, sv 41, sv 42, sv 43, sv 44]]) [(0, 0), (1, 1)]
def plockB (t : St) (o : List Ord) : HL := [(0, .row 73 (.lst (cells t (lineV 3 t.line))) false), (1, .dead), (3, .row 34 (.lst (encL t.line)) false), (2, outO o)]
def PC (g : FuncId) (args : List Value) (s t : St) (o : List Ord) : Prop := ∃ cap, CapOK o cap ∧ Ctr Try.prog g (lockP ++ args) (lockA 1 s) (ordR 2 cap o) (plockB t o)
theorem MC.toPC {g : FuncId} {args : List Value} {s t : St} {o : List Ord} (h : MC g args s t o) : PC g args s t o := by
  obtain ⟨cap, hc, h⟩ := h
  cases o with
  | nil =>
    refine ⟨cap, hc, (ctr_ghost h 2 45 false rfl rfl).reB fun i => ?_⟩
    match i with
    | 0 => rfl
    | 1 => rfl
    | 2 => rfl
    | 3 => rfl
    | i + 4 => rfl
  | cons x l =>
    refine ⟨cap, hc, h.reB fun i => ?_⟩
    match i with
    | 0 => rfl
    | 1 => rfl
    | 2 => rfl
    | 3 => rfl
    | i + 4 => rfl
def twoL : HL := [(0, .row 73 (.lst (syms [])) false), (1, .orow 34 0 false), (2, .row 52 (.lst (syms [(26, .chan (some 1))])) false), (3, .mrow 34 0 false)]
def twoA (s : St) : HL := [(0, .row 73 (.lst (cells s (lineV 1 s.line))) false), (1, .row 34 (.lst (encL s.line)) false), (2, .row 52 (.lst (cells s (lvR 3 s.line))) false), (3, lineO s.line)]
def twoB0 (t : St) : HL := [(0, .row 73 (.lst (cells t (lineV 4 t.line))) false), (2, .row 52 (.lst (cells t (lvR 5 t.line))) false), (4, .row 34 (.lst (encL t.line)) false), (5, lineO t.line)]
def twoB (t : St) (o : List Ord) : HL := twoB0 t ++ [(6, outO o), (7, outO o)]
def twoD (t : St) (o : List Ord) : HL := twoB t o ++ [(1, .dead), (3, .dead)]
def eHe (args : List Value) (c i : Nat) : Entry := { args := args, c := c, foots := [⟨2, 0, false, rowR [(26, .chan (some 1))], rowR [(26, .chan (some 1))]⟩, ⟨3, 1, false, mL 0, mL 0⟩], news := [], res := sv i }
def eDp (args : List Value) (c i0 k j : Nat) : Entry := { args := args, c := c, foots := [⟨0, 0, false, rowX [], .row 73 (.lst (symsT i0 k)) false⟩, ⟨1, 1, false, .orow 34 0 false, .dead⟩], news := [(3, .orow 34 j false), (2, .mrow 45 (j + 1) false)], res := .chan (some (k + 1)) }
def eDr (args : List Value) (c i0 k j : Nat) : Entry := { args := args, c := c, foots := [⟨2, 0, false, rowR [(26, .chan (some 1))], .row 52 (.lst (symsT i0 k)) false⟩, ⟨3, 1, false, mL 0, .dead⟩], news := [(3, mL j), (2, .mrow 45 (j + 1) false)], res := .chan (some (k + 1)) }
def stepV (k n m op psn : Int) : Value := .agg #[.int .i64 k, .int .i64 n, .int .i64 m, .int .i64 op, .int .i64 psn]
def DoC (k n m op psn : Int) (s t : St) (o : List Ord) : Prop := ∃ c1 c2, CapOK o c1 ∧ CapOK o c2 ∧ Ctr Try.prog 16 [.pointer (some ⟨0, 0, none⟩), .pointer (some ⟨2, 0, none⟩), stepV k n m op psn] (twoA s) (.tuple #[ordR 6 c1 o, ordR 7 c2 o]) (twoD t o)
theorem DoC.mk {k n m op psn : Int} {s t : St} {o : List Ord} {c1 c2 : Nat} (h : Ctr Try.prog 16 [.pointer (some ⟨0, 0, none⟩), .pointer (some ⟨2, 0, none⟩), stepV k n m op psn] (twoA s) (.tuple #[ordR 6 c1 o, ordR 7 c2 o]) (twoB t o)) (h1 : CapOK o c1) (h2 : CapOK o c2) : DoC k n m op psn s t o :=
  ⟨c1, c2, h1, h2, ((h.addDead 1 rfl).addDead 3 rfl).reB fun i => by unfold twoD; rw [List.append_assoc]; rfl⟩
def opM (s : St) (op : Int) : Int := if op = -1 then s.op else op
section
variable {s t : St} {k n m op psn : Int} {o : List Ord}
theorem do_1 (hk : k = 1) (hp : PC 24 [.int .i64 n, .int .i64 m] s t o) (hr : RC 54 [.int .i64 n, .int .i64 m] s t o) : DoC k n m op psn s t o := by
  obtain ⟨cap, hcap, hP⟩ := hp
  obtain ⟨cap', hcap', hR⟩ := hr
  refine DoC.mk (c1 := cap) (c2 := cap') ?_ hcap hcap'
  · by_cases h0 : ((op) : Int) = (-1)
    · skip
      exact pth (dr s ([iv k, iv n, iv m, iv op, iv psn] ++ tv t) [.v (lineV 1 s.line), olv 3 s.line, .v (lineV 5 t.line), oord 6 cap o, olv 7 t.line, oord 8 cap' o] [encL s.line, encL t.line, encOrds o]) ⟨[kt .eql 2 (sv 43) (iv (-1)), kt .eql 3 (sv 40) (iv 1)], [], []⟩ [(24, [eDp [pt 0 0, sv 41, sv 42] 5 45 2 1]), (54, [eDr [pt 2 0, sv 41, sv 42] 7 45 4 1])] ⟨eT op (-1), eT k 1, trivial⟩ trivial trivial ⟨oe hP, oe (toD hR), trivial⟩ 4 (twoL) [pt 0 0, pt 2 0, .agg #[sv 40, sv 41, sv 42, sv 43, sv 44]] [(0, 0), (2, 2), (5, 4), (7, 5), (6, 6), (8, 7)]
    · skip
      exact pth (dr s ([iv k, iv n, iv m, iv op, iv psn] ++ tv t) [.v (lineV 1 s.line), olv 3 s.line, .v (lineV 5 t.line), oord 6 cap o, olv 7 t.line, oord 8 cap' o] [encL s.line, encL t.line, encOrds o]) ⟨[kf .eql 2 (sv 43) (iv (-1)), kt .eql 3 (sv 40) (iv 1)], [], []⟩ [(24, [eDp [pt 0 0, sv 41, sv 42] 5 45 2 1]), (54, [eDr [pt 2 0, sv 41, sv 42] 7 45 4 1])] ⟨eF op (-1), eT k 1, trivial⟩ trivial trivial ⟨oe hP, oe (toD hR), trivial⟩ 4 (twoL) [pt 0 0, pt 2 0, .agg #[sv 40, sv 41, sv 42, sv 43, sv 44]] [(0, 0), (2, 2), (5, 4), (7, 5), (6, 6), (8, 7)]
theorem do_2 (hk : k = 2) (hp : PC 25 [.int .i64 n] s t o) (hr : RC 55 [.agg #[.int .i64 n, .int .i64 3]] s t o) : DoC k n m op psn s t o := by
  obtain ⟨cap, hcap, hP⟩ := hp
  obtain ⟨cap', hcap', hR⟩ := hr
  refine DoC.mk (c1 := cap) (c2 := cap') ?_ hcap hcap'
  · by_cases h0 : ((op) : Int) = (-1)
    · skip
      exact pth (dr s ([iv k, iv n, iv m, iv op, iv psn] ++ tv t) [.v (lineV 1 s.line), olv 3 s.line, .v (lineV 5 t.line), oord 6 cap o, olv 7 t.line, oord 8 cap' o] [encL s.line, encL t.line, encOrds o]) ⟨[kt .eql 2 (sv 43) (iv (-1)), kf .eql 3 (sv 40) (iv 1), kt .eql 3 (sv 40) (iv 2)], [], []⟩ [(25, [eDp [pt 0 0, sv 41] 5 45 2 1]), (55, [eDr [pt 2 0, .agg #[sv 41, iv 3]] 7 45 4 1])] ⟨eT op (-1), eF k 1, eT k 2, trivial⟩ trivial trivial ⟨oe hP, oe (toD hR), trivial⟩ 4 (twoL) [pt 0 0, pt 2 0, .agg #[sv 40, sv 41, sv 42, sv 43, sv 44]] [(0, 0), (2, 2), (5, 4), (7, 5), (6, 6), (8, 7)]
    · skip
      exact pth (dr s ([iv k, iv n, iv m, iv op, iv psn] ++ tv t) [.v (lineV 1 s.line), olv 3 s.line, .v (lineV 5 t.line), oord 6 cap o, olv 7 t.line, oord 8 cap' o] [encL s.line, encL t.line, encOrds o]) ⟨[kf .eql 2 (sv 43) (iv (-1)), kf .eql 3 (sv 40) (iv 1), kt .eql 3 (sv 40) (iv 2)], [], []⟩ [(25, [eDp [pt 0 0, sv 41] 5 45 2 1]), (55, [eDr [pt 2 0, .agg #[sv 41, iv 3]] 7 45 4 1])] ⟨eF op (-1), eF k 1, eT k 2, trivial⟩ trivial trivial ⟨oe hP, oe (toD hR), trivial⟩ 4 (twoL) [pt 0 0, pt 2 0, .agg #[sv 40, sv 41, sv 42, sv 43, sv 44]] [(0, 0), (2, 2), (5, 4), (7, 5), (6, 6), (8, 7)]
theorem do_3 (hk : k = 3) (hp : PC 30 [.int .i64 n, .int .i64 (opM s op)] s t o) (hr : RC 56 [.int .i64 n, .int .i64 (opM s op)] s t o) : DoC k n m op psn s t o := by
  obtain ⟨cap, hcap, hP⟩ := hp
  obtain ⟨cap', hcap', hR⟩ := hr
  refine DoC.mk (c1 := cap) (c2 := cap') ?_ hcap hcap'
  · by_cases h0 : ((op) : Int) = (-1)
    · simp only [opM, if_pos h0] at hP hR
      exact pth (dr s ([iv k, iv n, iv m, iv op, iv psn] ++ tv t) [.v (lineV 1 s.line), olv 3 s.line, .v (lineV 5 t.line), oord 6 cap o, olv 7 t.line, oord 8 cap' o] [encL s.line, encL t.line, encOrds o]) ⟨[kt .eql 2 (sv 43) (iv (-1)), kf .eql 3 (sv 40) (iv 1), kf .eql 3 (sv 40) (iv 2), kt .eql 3 (sv 40) (iv 3)], [], []⟩ [(30, [eDp [pt 0 0, sv 41, sv 39] 5 45 2 1]), (56, [eDr [pt 2 0, sv 41, sv 39] 7 45 4 1])] ⟨eT op (-1), eF k 1, eF k 2, eT k 3, trivial⟩ trivial trivial ⟨oe hP, oe (toD hR), trivial⟩ 4 (twoL) [pt 0 0, pt 2 0, .agg #[sv 40, sv 41, sv 42, sv 43, sv 44]] [(0, 0), (2, 2), (5, 4), (7, 5), (6, 6), (8, 7)]
    · simp only [opM, if_neg h0] at hP hR
      exact pth (dr s ([iv k, iv n, iv m, iv op, iv psn] ++ tv t) [.v (lineV 1 s.line), olv 3 s.line, .v (lineV 5 t.line), oord 6 cap o, olv 7 t.line, oord 8 cap' o] [encL s.line, encL t.line, encOrds o]) ⟨[kf .eql 2 (sv 43) (iv (-1)), kf .eql 3 (sv 40) (iv 1), kf .eql 3 (sv 40) (iv 2), kt .eql 3 (sv 40) (iv 3)], [], []⟩ [(30, [eDp [pt 0 0, sv 41, sv 43] 5 45 2 1]), (56, [eDr [pt 2 0, sv 41, sv 43] 7 45 4 1])] ⟨eF op (-1), eF k 1, eF k 2, eT k 3, trivial⟩ trivial trivial ⟨oe hP, oe (toD hR), trivial⟩ 4 (twoL) [pt 0 0, pt 2 0, .agg #[sv 40, sv 41, sv 42, sv 43, sv 44]] [(0, 0), (2, 2), (5, 4), (7, 5), (6, 6), (8, 7)]
theorem do_4 (hk : k = 4) (hp : PC 31 [.int .i64 n, .int .i64 (opM s op)] s t o) (hr : RC 57 [.int .i64 n, .int .i64 (opM s op)] s t o) : DoC k n m op psn s t o := by
  obtain ⟨cap, hcap, hP⟩ := hp
  obtain ⟨cap', hcap', hR⟩ := hr
  refine DoC.mk (c1 := cap) (c2 := cap') ?_ hcap hcap'
  · by_cases h0 : ((op) : Int) = (-1)
    · simp only [opM, if_pos h0] at hP hR
      exact pth (dr s ([iv k, iv n, iv m, iv op, iv psn] ++ tv t) [.v (lineV 1 s.line), olv 3 s.line, .v (lineV 5 t.line), oord 6 cap o, olv 7 t.line, oord 8 cap' o] [encL s.line, encL t.line, encOrds o]) ⟨[kt .eql 2 (sv 43) (iv (-1)), kf .eql 3 (sv 40) (iv 1), kf .eql 3 (sv 40) (iv 2), kf .eql 3 (sv 40) (iv 3), kt .eql 3 (sv 40) (iv 4)], [], []⟩ [(31, [eDp [pt 0 0, sv 41, sv 39] 5 45 2 1]), (57, [eDr [pt 2 0, sv 41, sv 39] 7 45 4 1])] ⟨eT op (-1), eF k 1, eF k 2, eF k 3, eT k 4, trivial⟩ trivial trivial ⟨oe hP, oe (toD hR), trivial⟩ 4 (twoL) [pt 0 0, pt 2 0, .agg #[sv 40, sv 41, sv 42, sv 43, sv 44]] [(0, 0), (2, 2), (5, 4), (7, 5), (6, 6), (8, 7)]
    · simp only [opM, if_neg h0] at hP hR
      exact pth (dr s ([iv k, iv n, iv m, iv op, iv psn] ++ tv t) [.v (lineV 1 s.line), olv 3 s.line, .v (lineV 5 t.line), oord 6 cap o, olv 7 t.line, oord 8 cap' o] [encL s.line, encL t.line, encOrds o]) ⟨[kf .eql 2 (sv 43) (iv (-1)), kf .eql 3 (sv 40) (iv 1), kf .eql 3 (sv 40) (iv 2), kf .eql 3 (sv 40) (iv 3), kt .eql 3 (sv 40) (iv 4)], [], []⟩ [(31, [eDp [pt 0 0, sv 41, sv 43] 5 45 2 1]), (57, [eDr [pt 2 0, sv 41, sv 43] 7 45 4 1])] ⟨eF op (-1), eF k 1, eF k 2, eF k 3, eT k 4, trivial⟩ trivial trivial ⟨oe hP, oe (toD hR), trivial⟩ 4 (twoL) [pt 0 0, pt 2 0, .agg #[sv 40, sv 41, sv 42, sv 43, sv 44]] [(0, 0), (2, 2), (5, 4), (7, 5), (6, 6), (8, 7)]
theorem do_5 (hk : k = 5) (hp : PC 26 [.int .i64 n, .int .i64 (heldM s n op)] s t o) (hr : RC 59 [.int .i64 n, .int .i64 (heldM s n op)] s t o) : DoC k n m op psn s t o := by
  obtain ⟨cap, hcap, hP⟩ := hp
  obtain ⟨cap', hcap', hR⟩ := hr
  refine DoC.mk (c1 := cap) (c2 := cap') ?_ hcap hcap'
  · by_cases h0 : ((op) : Int) = (-1)
    · skip
      exact pth (dr s ([iv k, iv n, iv m, iv op, iv psn, iv (heldM s n op)] ++ tv t ++ [iv (heldM s n op)]) [.v (lineV 1 s.line), olv 3 s.line, .v (lineV 5 t.line), oord 6 cap o, olv 7 t.line, oord 8 cap' o] [encL s.line, encL t.line, encOrds o]) ⟨[kt .eql 2 (sv 43) (iv (-1)), kf .eql 3 (sv 40) (iv 1), kf .eql 3 (sv 40) (iv 2), kf .eql 3 (sv 40) (iv 3), kf .eql 3 (sv 40) (iv 4), kt .eql 3 (sv 40) (iv 5)], [], []⟩ [(58, [eHe [pt 2 0, .agg #[sv 40, sv 41, sv 42, sv 43, sv 44]] 5 45, eHe [pt 2 0, .agg #[sv 40, sv 41, sv 42, sv 43, sv 44]] 7 86]), (26, [eDp [pt 0 0, sv 41, sv 45] 5 46 2 1]), (59, [eDr [pt 2 0, sv 41, sv 86] 7 46 4 1])] ⟨eT op (-1), eF k 1, eF k 2, eF k 3, eF k 4, eT k 5, trivial⟩ trivial trivial ⟨two_entry (entOK (held_ctr s k n m op psn) rfl (by kernel_rfl)) (entOK (held_ctr s k n m op psn) rfl (by kernel_rfl)), oe hP, oe (toD hR), trivial⟩ 4 (twoL) [pt 0 0, pt 2 0, .agg #[sv 40, sv 41, sv 42, sv 43, sv 44]] [(0, 0), (2, 2), (5, 4), (7, 5), (6, 6), (8, 7)]
    · skip
      exact pth (dr s ([iv k, iv n, iv m, iv op, iv psn, iv (heldM s n op)] ++ tv t ++ [iv (heldM s n op)]) [.v (lineV 1 s.line), olv 3 s.line, .v (lineV 5 t.line), oord 6 cap o, olv 7 t.line, oord 8 cap' o] [encL s.line, encL t.line, encOrds o]) ⟨[kf .eql 2 (sv 43) (iv (-1)), kf .eql 3 (sv 40) (iv 1), kf .eql 3 (sv 40) (iv 2), kf .eql 3 (sv 40) (iv 3), kf .eql 3 (sv 40) (iv 4), kt .eql 3 (sv 40) (iv 5)], [], []⟩ [(58, [eHe [pt 2 0, .agg #[sv 40, sv 41, sv 42, sv 43, sv 44]] 5 45, eHe [pt 2 0, .agg #[sv 40, sv 41, sv 42, sv 43, sv 44]] 7 86]), (26, [eDp [pt 0 0, sv 41, sv 45] 5 46 2 1]), (59, [eDr [pt 2 0, sv 41, sv 86] 7 46 4 1])] ⟨eF op (-1), eF k 1, eF k 2, eF k 3, eF k 4, eT k 5, trivial⟩ trivial trivial ⟨two_entry (entOK (held_ctr s k n m op psn) rfl (by kernel_rfl)) (entOK (held_ctr s k n m op psn) rfl (by kernel_rfl)), oe hP, oe (toD hR), trivial⟩ 4 (twoL) [pt 0 0, pt 2 0, .agg #[sv 40, sv 41, sv 42, sv 43, sv 44]] [(0, 0), (2, 2), (5, 4), (7, 5), (6, 6), (8, 7)]
theorem do_6 (hk : k = 6) (hp : PC 32 [.int .i64 n, .int .i64 (heldM s n op), .int .i64 psn] s t o) (hr : RC 60 [.int .i64 n, .int .i64 (heldM s n op), .int .i64 psn] s t o) : DoC k n m op psn s t o := by
  obtain ⟨cap, hcap, hP⟩ := hp
  obtain ⟨cap', hcap', hR⟩ := hr
  refine DoC.mk (c1 := cap) (c2 := cap') ?_ hcap hcap'
  · by_cases h0 : ((op) : Int) = (-1)
    · skip
      exact pth (dr s ([iv k, iv n, iv m, iv op, iv psn, iv (heldM s n op)] ++ tv t ++ [iv (heldM s n op)]) [.v (lineV 1 s.line), olv 3 s.line, .v (lineV 5 t.line), oord 6 cap o, olv 7 t.line, oord 8 cap' o] [encL s.line, encL t.line, encOrds o]) ⟨[kt .eql 2 (sv 43) (iv (-1)), kf .eql 3 (sv 40) (iv 1), kf .eql 3 (sv 40) (iv 2), kf .eql 3 (sv 40) (iv 3), kf .eql 3 (sv 40) (iv 4), kf .eql 3 (sv 40) (iv 5), kt .eql 3 (sv 40) (iv 6)], [], []⟩ [(58, [eHe [pt 2 0, .agg #[sv 40, sv 41, sv 42, sv 43, sv 44]] 5 45, eHe [pt 2 0, .agg #[sv 40, sv 41, sv 42, sv 43, sv 44]] 7 86]), (32, [eDp [pt 0 0, sv 41, sv 45, sv 44] 5 46 2 1]), (60, [eDr [pt 2 0, sv 41, sv 86, sv 44] 7 46 4 1])] ⟨eT op (-1), eF k 1, eF k 2, eF k 3, eF k 4, eF k 5, eT k 6, trivial⟩ trivial trivial ⟨two_entry (entOK (held_ctr s k n m op psn) rfl (by kernel_rfl)) (entOK (held_ctr s k n m op psn) rfl (by kernel_rfl)), oe hP, oe (toD hR), trivial⟩ 4 (twoL) [pt 0 0, pt 2 0, .agg #[sv 40, sv 41, sv 42, sv 43, sv 44]] [(0, 0), (2, 2), (5, 4), (7, 5), (6, 6), (8, 7)]
    · skip
      exact pth (dr s ([iv k, iv n, iv m, iv op, iv psn, iv (heldM s n op)] ++ tv t ++ [iv (heldM s n op)]) [.v (lineV 1 s.line), olv 3 s.line, .v (lineV 5 t.line), oord 6 cap o, olv 7 t.line, oord 8 cap' o] [encL s.line, encL t.line, encOrds o]) ⟨[kf .eql 2 (sv 43) (iv (-1)), kf .eql 3 (sv 40) (iv 1), kf .eql 3 (sv 40) (iv 2), kf .eql 3 (sv 40) (iv 3), kf .eql 3 (sv 40) (iv 4), kf .eql 3 (sv 40) (iv 5), kt .eql 3 (sv 40) (iv 6)], [], []⟩ [(58, [eHe [pt 2 0, .agg #[sv 40, sv 41, sv 42, sv 43, sv 44]] 5 45, eHe [pt 2 0, .agg #[sv 40, sv 41, sv 42, sv 43, sv 44]] 7 86]), (32, [eDp [pt 0 0, sv 41, sv 45, sv 44] 5 46 2 1]), (60, [eDr [pt 2 0, sv 41, sv 86, sv 44] 7 46 4 1])] ⟨eF op (-1), eF k 1, eF k 2, eF k 3, eF k 4, eF k 5, eT k 6, trivial⟩ trivial trivial ⟨two_entry (entOK (held_ctr s k n m op psn) rfl (by kernel_rfl)) (entOK (held_ctr s k n m op psn) rfl (by kernel_rfl)), oe hP, oe (toD hR), trivial⟩ 4 (twoL) [pt 0 0, pt 2 0, .agg #[sv 40, sv 41, sv 42, sv 43, sv 44]] [(0, 0), (2, 2), (5, 4), (7, 5), (6, 6), (8, 7)]
theorem do_7 (hk : k ≠ 1 ∧ k ≠ 2 ∧ k ≠ 3 ∧ k ≠ 4 ∧ k ≠ 5 ∧ k ≠ 6) : DoC k n m op psn s s [] := by
  refine DoC.mk (c1 := INF) (c2 := INF) (ctr_ghost (ctr_ghost (B := twoB0 s) ?_ 6 45 false rfl rfl) 7 45 false rfl rfl) (.inl rfl) (.inl rfl)
  · by_cases h0 : ((op) : Int) = (-1)
    · skip
      exact pth (dr s [iv k, iv n, iv m, iv op, iv psn] [.v (lineV 1 s.line), olv 3 s.line] [encL s.line]) ⟨[kt .eql 2 (sv 43) (iv (-1)), kf .eql 3 (sv 40) (iv 1), kf .eql 3 (sv 40) (iv 2), kf .eql 3 (sv 40) (iv 3), kf .eql 3 (sv 40) (iv 4), kf .eql 3 (sv 40) (iv 5), kf .eql 3 (sv 40) (iv 6)], [], []⟩ [] ⟨eT op (-1), eF k 1, eF k 2, eF k 3, eF k 4, eF k 5, eF k 6, trivial⟩ trivial trivial trivial 4 (twoL) [pt 0 0, pt 2 0, .agg #[sv 40, sv 41, sv 42, sv 43, sv 44]] [(0, 0), (2, 2), (1, 4), (3, 5)]
    · skip
      exact pth (dr s [iv k, iv n, iv m, iv op, iv psn] [.v (lineV 1 s.line), olv 3 s.line] [encL s.line]) ⟨[kf .eql 2 (sv 43) (iv (-1)), kf .eql 3 (sv 40) (iv 1), kf .eql 3 (sv 40) (iv 2), kf .eql 3 (sv 40) (iv 3), kf .eql 3 (sv 40) (iv 4), kf .eql 3 (sv 40) (iv 5), kf .eql 3 (sv 40) (iv 6)], [], []⟩ [] ⟨eF op (-1), eF k 1, eF k 2, eF k 3, eF k 4, eF k 5, eF k 6, trivial⟩ trivial trivial trivial 4 (twoL) [pt 0 0, pt 2 0, .agg #[sv 40, sv 41, sv 42, sv 43, sv 44]] [(0, 0), (2, 2), (1, 4), (3, 5)]
end
def doM (s : St) (k n m op psn : Int) : St × List Ord :=
  if k = 1 then wantM s n m else if k = 2 then cleanM s n else if k = 3 then goneMM s n (opM s op) else if k = 4 then gotM s n (opM s op) else if k = 5 then relM s n (heldM s n op) else if k = 6 then wroteM s n (heldM s n op) psn else (s, [])
theorem do_ctr {s : St} (hp : P2 s) (hb : s.op + s.line.length ≤ 900) (k n m op psn : Int) : DoC k n m op psn s (doM s k n m op psn).1 (doM s k n m op psn).2 ∧ P2 (doM s k n m op psn).1 ∧ StepR s (doM s k n m op psn) := by
  unfold doM
  by_cases h1 : k = 1
  · rw [if_pos h1]
    have h := want_ctr (n := n) (m := m) hp.post hb
    exact ⟨do_1 h1 h.1.toPC (wantR_ctr hp.post hb), ⟨h.2.post, want_K hp.kd⟩, h.2⟩
  rw [if_neg h1]
  by_cases h2 : k = 2
  · rw [if_pos h2]
    have h := clean_ctr (n := n) hp.post hb
    exact ⟨do_2 h2 h.1.toPC (cleanR_ctr hp.post hb), ⟨h.2.post, clean_K hp.kd⟩, h.2⟩
  rw [if_neg h2]
  by_cases h3 : k = 3
  · rw [if_pos h3]
    have h := gone_ctr (n := n) (op := opM s op) hp.post hb
    exact ⟨do_3 h3 h.1.toPC (goneR_ctr hp hb), ⟨h.2.post, gone_K hp.kd⟩, h.2⟩
  rw [if_neg h3]
  by_cases h4 : k = 4
  · rw [if_pos h4]
    have h := got_ctr (n := n) (op := opM s op) hp.post hb
    exact ⟨do_4 h4 h.1.toPC (gotR_ctr hp hb), ⟨h.2.post, got_K hp.kd⟩, h.2⟩
  rw [if_neg h4]
  by_cases h5 : k = 5
  · rw [if_pos h5]
    have h := rel_ctr (n := n) (op := heldM s n op) hp.post hb
    exact ⟨do_5 h5 h.1.toPC (relR_ctr hp hb), ⟨h.2.post, rel_K hp.kd⟩, h.2⟩
  rw [if_neg h5]
  by_cases h6 : k = 6
  · rw [if_pos h6]
    have h := wrote_ctr (n := n) (op := heldM s n op) (psn := psn) hp.post hb
    exact ⟨do_6 h6 h.1.toPC (wroteR_ctr hp hb), ⟨h.2.post, wrote_K hp.kd⟩, h.2⟩
  rw [if_neg h6]
  exact ⟨do_7 ⟨h1, h2, h3, h4, h5, h6⟩, hp, StepR.keep hp.post⟩
end Go.Proofs.Ytjpgnjaobfbojaa
namespace Go.Proofs.Ytjpgnjaobfbojaa
open Go.Sx
set_option maxRecDepth 20000
abbrev oint (id : Nat) (l : List Int) : OV := .m id l.length INF
theorem listG_of {g : FuncId} {f : Nat → Bool} {l : List Int} (h : Ctr Try.prog g [bitsV f] [] (outI l) (outIH l)) : Ctr Try.prog g [bitsV f] [] (mSl 2 l.length INF) [(2, rowOr 3 (encI l) false)] := by
  cases l with
  | nil => exact ctr_ghost h 2 3 false rfl rfl
  | cons x l => exact h
theorem list52G (f : Nat → Bool) : Ctr Try.prog 52 [bitsV f] [] (mSl 2 (listTo f 8).length INF) [(2, rowOr 3 (encI (listTo f 8)) false)] := listG_of (list52_ctr f)
theorem list62G (f : Nat → Bool) : Ctr Try.prog 62 [bitsV f] [] (mSl 2 (listTo f 8).length INF) [(2, rowOr 3 (encI (listTo f 8)) false)] := listG_of (list62_ctr f)
def eLs (b c j k : Nat) : Entry := { args := [.agg (v8 b)], c := c, foots := [], news := [(2, .mrow 3 j false)], res := .chan (some k) }
theorem asEqS {d : Den} {P : Program} {t e : TypeId} {i n c : Nat} {a : Addr} (hu : P.underlying t = some (.slice e)) (ho : d.o i = .slice (some a) n c) : @AK.Ok d P (.bin .eql t (.chan (some i)) (.slice none 0 0)) (.bool false) := asEqN hu ho
def lineA0 : HL := [(1, .row 34 (.lst []) true)]
def lineA : HL := [(1, .orow 34 0 true)]
def eCl (a c j k : Nat) : Entry := { args := [.slice (some ⟨a, 0, none⟩) 0 0, .chan (some 0)], c := c, foots := [⟨a, 0, true, .row 34 (.lst []) false, .row 34 (.lst []) false⟩, ⟨1, 1, true, .orow 34 0 true, .orow 34 0 true⟩], news := [(2, .orow 34 j false)], res := .chan (some k) }
theorem app_clone (x : Int × Int) (l : List (Int × Int)) (h : (x :: l).length < 1000000) : AppC Try.prog [31, 31] [.slice (some ⟨0, 0, none⟩) 0 0, .slice (some ⟨1, 0, none⟩) (x :: l).length INF] [(0, .row 34 (.lst []) true), (1, .row 34 (.lst (encL (x :: l))) true)] (.slice (some ⟨2, 0, none⟩) (x :: l).length INF) [(2, .row 34 (.lst (encL (x :: l))) false)] := by
  have h := AppC.cap (P := Try.prog) elemW (bl := []) (l := encL (x :: l)) (n := 0) (m := (x :: l).length) (off := 0) (cp := INF) (T := 34) (Tb := 34) rfl rfl (by simp) (by rw [encL_len]; simp only [List.length_cons]; omega) (encL_plain _) (by omega) (by unfold HALF; omega)
  have e : [] ++ ((encL (x :: l)).drop 0).take ((x :: l).length * 2) = encL (x :: l) := by
    rw [List.nil_append, List.drop_zero, List.take_of_length_le (by rw [encL_len]; omega)]
  rw [e, Nat.zero_add] at h
  exact h
theorem clone_nil : Ctr Try.prog 53 [lineV 1 []] [(1, .row 34 (.lst (encL [])) true)] (lineV 2 []) [(2, .row 34 (.lst (encL [])) false)] := by
  · skip
    exact pth (dr newS [] [.v (.bool false)] []) ⟨[], [], []⟩ [] trivial trivial trivial trivial 2 (lineA0) [.slice (some ⟨1, 0, none⟩) 0 0] [(2, 2)]
theorem clone_cons (x : Int × Int) (l : List (Int × Int)) (hl : (x :: l).length < 1000000) : Ctr Try.prog 53 [lineV 1 (x :: l)] [(1, .row 34 (.lst (encL (x :: l))) true)] (lineV 2 (x :: l)) [(2, .row 34 (.lst (encL (x :: l))) false)] := by
  · skip
    exact pth (dr newS [] [.v (lineV 1 (x :: l)), .v (lineV 3 (x :: l))] [encL (x :: l), encL (x :: l)]) ⟨[kf .eql 31 (ch 0) (.slice none 0 0)], [], [([31, 31], eCl 2 3 1 1)]⟩ [] ⟨asEqS u31 rfl, trivial⟩ trivial ⟨ap (app_clone x l hl), trivial⟩ trivial 2 (lineA) [ch 0] [(3, 2)]
theorem clone_ctr (l : List (Int × Int)) (hl : l.length < 1000000) : Ctr Try.prog 53 [lineV 1 l] [(1, .row 34 (.lst (encL l)) true)] (lineV 2 l) [(2, .row 34 (.lst (encL l)) false)] := by
  cases l with
  | nil => exact clone_nil
  | cons x l => exact clone_cons x l hl
def bkG (i j : Nat) (lv : Value) (s : St) : Value := .agg #[.int .i64 s.x, .int .i64 s.owner, mSl i (listTo s.sh 8).length INF, mSl j (listTo s.pa 8).length INF, .int .i64 (s.ops 0), .int .i64 (s.ops 1), .int .i64 (s.ops 2), .int .i64 (s.ops 3), .int .i64 (s.ops 4), .int .i64 (s.ops 5), .int .i64 (s.ops 6), .int .i64 (s.ops 7), lv, .int .i64 s.hn, .int .i64 s.hk, .bool (s.wt != 0), .int .i64 s.op]
def setO (f : Nat → Bool) (ro : Bool) : AObj := rowOr 3 (encI (listTo f 8)) ro
def bkH (s : St) (lo : AObj) : HL := [(2, setO s.sh false), (3, setO s.pa false), (4, lo)]
def eClE (c j k : Nat) : Entry := { args := [.chan (some 0)], c := c, foots := [⟨1, 1, true, .orow 34 0 false, .orow 34 0 false⟩], news := [(2, .orow 34 j false)], res := .chan (some k) }
theorem bookG_ctr {s : St} (hl : s.line.length < 1000000) : Ctr Try.prog 15 lockP (lockA 1 s) (bkG 2 3 (lineV 4 s.line) s) (lockA 1 s ++ bkH s (.row 34 (.lst (encL s.line)) false)) := by
  · skip
    exact pth (dr s [.bool (s.wt != 0)] [.v (lineV 1 s.line), oint 3 (listTo s.sh 8), oint 4 (listTo s.pa 8), .v (lineV 5 s.line)] [encL s.line, encI (listTo s.sh 8), encI (listTo s.pa 8), encL s.line]) ⟨[kt .neq 31 (ch 0) (.slice none 0 0), (.bin .neq 71 (sv 29) (iv 0), sv 40)], [], []⟩ [(52, [eLs 2 3 1 1, eLs 10 4 2 2]), (53, [eClE 5 3 3])] ⟨asNeS u31 rfl, asP (u := .bool (s.wt != 0)) (by kernel_rfl) (by kernel_rfl), trivial⟩ trivial trivial ⟨two_entry (entOK (list52G s.sh) rfl (by kernel_rfl)) (entOK (list52G s.pa) rfl (by kernel_rfl)), oe (clone_ctr s.line hl), trivial⟩ 2 (lockL []) lockP [(0, 0), (1, 1), (3, 2), (4, 3), (5, 4)]
def eCpR (c j k : Nat) : Entry := { args := [.slice none 0 0, .chan (some 0)], c := c, foots := [⟨1, 1, true, mL 0, mL 0⟩], news := [(2, mL j)], res := .chan (some k) }
theorem app_cpR (l : List (Int × Int)) (h : l.length < 1000000) : AppC Try.prog [31, 31] [.slice none 0 0, lvR 1 l] [(1, rowOr 34 (encL l) true)] (lvR 2 l) [(2, lineO l)] := by
  cases l with
  | nil =>
    have h1 : AppC Try.prog [31, 31] [.slice none 0 0, .slice none 0 0] [(1, rowOr 34 [] true)] (.slice none 0 0) [(1, rowOr 34 [] true)] := by
      refine AppC.same (c := 0) (c' := 0) ?_
      unfold appendA
      exact Run.bind (Run.opt elemW.el) (Run.bind (Run.opt elemW.sz) (Run.bind (Run.opt elemW.by') (Run.bind (Run.opt elemW.ze) (Run.bind (Run.guard elemW.ok) (Run.bind (Run.opt rfl) Run.pure)))))
    intro w F E args' ty at' hr hla hat
    obtain ⟨v', w', E', k1, k2, k3, k4⟩ := h1 w F E args' ty at' hr hla hat
    refine ⟨v', w', fun _ => none, k1, fun i x hi hb => ?_, ?_, ?_⟩
    · have := @HR.dom den0 _ _ _ _ _ _ hr i x hi
      rw [get_ofL] at this
      simp only [lkL] at this hb
      cases h2 : Nat.beq 2 i with
      | false => rw [h2] at hb; cases hb
      | true =>
        have := beq_iff.1 h2; subst this
        exact absurd rfl this
    · exact ghost_hr (B := []) (@HR.mk den0 _ _ _ _ _ _ (@HR.keeps den0 _ _ _ _ _ _ k3) (fun i x hx => by cases hx) (fun i o ho => by rw [get_ofL] at ho; cases ho) (fun i j o p x y _ ho => by rw [get_ofL] at ho; cases ho) (fun i o x ho => by rw [get_ofL] at ho; cases ho)) 2 rfl 34 false
    · cases k4; exact @VR.nilS den0 _
  | cons x l =>
    have h := AppC.nil (P := Try.prog) elemW (l := encL (x :: l)) (m := (x :: l).length) (off := 0) (cp := INF) (T := 34) (by simp) (by rw [encL_len]; omega) (encL_plain _) (by omega) (by unfold HALF; omega)
    have e : ((encL (x :: l)).drop 0).take ((x :: l).length * 2) = encL (x :: l) := by rw [List.drop_zero, List.take_of_length_le (by rw [encL_len]; omega)]
    rw [e] at h
    exact h
theorem bookR_ctr {s : St} (hl : s.line.length < 1000000) : Ctr Try.prog 20 lockP (rlock 1 s) (bkG 2 3 (lvR 4 s.line) s) (rlock 1 s ++ bkH s (lineO s.line)) := by
  · skip
    exact pth (dr s [.bool (s.wt != 0)] [olv 1 s.line, oint 3 (listTo s.sh 8), oint 4 (listTo s.pa 8), olv 5 s.line] [encL s.line, encI (listTo s.sh 8), encI (listTo s.pa 8), encL s.line]) ⟨[(.bin .neq 3 (sv 29) (iv 0), sv 40)], [], [([31, 31], eCpR 5 3 3)]⟩ [(62, [eLs 2 3 1 1, eLs 10 4 2 2])] ⟨asP (u := .bool (s.wt != 0)) (by kernel_rfl) (by kernel_rfl), trivial⟩ trivial ⟨ap (app_cpR s.line hl), trivial⟩ ⟨two_entry (entOK (list62G s.sh) rfl (by kernel_rfl)) (entOK (list62G s.pa) rfl (by kernel_rfl)), trivial⟩ 2 (rlockL []) lockP [(0, 0), (1, 1), (3, 2), (4, 3), (5, 4)]
theorem mSl_pos {id n c : Nat} (h : 0 < n) : mSl id n c = .slice (some ⟨id, 0, none⟩) n c := by cases n with
  | zero => omega
  | succ n => rfl
theorem asIxaM {d : Den} {P : Program} {t el : TypeId} {n len c a i r b off : Nat} {fk : FloatKind} {k : IntKind} {q : Int} (hu : P.underlying t = some (.slice el)) (hn : sizeB P el = some n) (ho : d.o a = mSl b len c) (hv : d.v i = .int k q) (h1 : 0 ≤ q) (h2 : q < len)
    (hr : d.o r = .pointer (some ⟨b, off, none⟩)) (hoff : off = 0 + q.toNat * n) : @AK.Ok d P (.ixa t (.chan (some a)) (.float fk i)) (.chan (some r)) := asIxa hu hn (ho.trans (mSl_pos (by omega))) hv h1 h2 hr hoff
theorem encI_at : ∀ (l : List Int) (i : Nat) (x : Int), l[i]? = some x → (encI l)[i]? = some (.int .i64 x)
  | [], i, x, h => by simp at h
  | y :: l, 0, x, h => by simp at h; subst h; rfl
  | y :: l, i + 1, x, h => by
    simp only [List.getElem?_cons_succ] at h
    simpa [encI] using encI_at l i x h
def siA : HL := [(1, .mrow 3 0 true), (2, .mrow 3 1 true)]
def siH (l m : List Int) : HL := [(1, rowOr 3 (encI l) true), (2, rowOr 3 (encI m) true)]
noncomputable abbrev dSI (l m : List Int) (i : Nat) : Den := dr newS [.int .i64 (l.length : Nat), .int .i64 (m.length : Nat), .int .i64 (i : Nat)] [oint 1 l, oint 2 m] [encI l, encI m]
noncomputable def kSI : List KI := ((ksteps (@rec ⟨[], [], []⟩ Try.prog noTbl 100) 11 (startC Try.prog 61 [.slice none 0 0, .slice none 0 0] 3 [])).map (·.k)).getD []
noncomputable def xSI : Cfg := headC kSI .normal [(0, .chan (some 0)), (1, .chan (some 1)), (5, sv 42)] 26 3 siA
section
variable {l m : List Int} {i : Nat} {x y : Int}
theorem si_ne (he : l.length ≠ m.length) : Ctr Try.prog 61 [mSl 1 l.length INF, mSl 2 m.length INF] (siH l m) (.bool false) [] := by
  · skip
    exact pth (dr newS [iv (l.length : Nat), iv (m.length : Nat)] [oint 1 l, oint 2 m] [encI l, encI m]) ⟨[(.len 29 (ch 0), sv 40), (.len 29 (ch 1), sv 41), kt .neq 3 (sv 40) (sv 41)], [], []⟩ [] ⟨asLen u29 rfl (by kernel_rfl), asLen u29 rfl (by kernel_rfl), nT (l.length : Int) (m.length : Int), trivial⟩ trivial trivial trivial 3 (siA) [ch 0, ch 1] []
theorem si_head {res : Value} (he : l.length = m.length) (hL : GoodS (dSI l m 0) Try.prog 61 (siH l m) res [] [] xSI) : Ctr Try.prog 61 [mSl 1 l.length INF, mSl 2 m.length INF] (siH l m) res [] := by
  · refine Ctr.of_goodS (d := (dr newS [iv (l.length : Nat), iv (m.length : Nat)] [oint 1 l, oint 2 m] [encI l, encI m])) [] (c0 := 3) (A0 := siA) (args0 := [ch 0, ch 1]) (by kernel_rfl) (by kernel_rfl) (by kernel_rfl) ?_
    exact @goodS_seg (dr newS [iv (l.length : Nat), iv (m.length : Nat)] [oint 1 l, oint 2 m] [encI l, encI m]) (dSI l m 0) Try.prog mixed ⟨[(.len 29 (ch 0), sv 40), (.len 29 (ch 1), sv 41), kf .neq 3 (sv 40) (sv 41)], [], []⟩ [] ⟨asLen u29 rfl (by kernel_rfl), asLen u29 rfl (by kernel_rfl), nF (l.length : Int) (m.length : Int), trivial⟩ trivial trivial trivial 100 11 61 _ _ _ _ _ [(1, 1), (2, 2)] [] _ _ _ _ _ _ (by kernel_rfl) (by kernel_rfl) (by kernel_rfl) hL
theorem si_hit (_hl : l.length < 1000000) (he : l.length = m.length) (hi : i < l.length) (hx : l[i]? = some x) (hy : m[i]? = some y) (hne : x ≠ y) : GoodS (dSI l m i) Try.prog 61 (siH l m) (.bool false) [] [] xSI := by
  · exact gF (dr newS [iv (l.length : Nat), iv (m.length : Nat), iv (i : Nat), iv x, iv y] [oint 1 l, oint 2 m, .v (pt 1 (i)), .v (pt 2 (i))] [encI l, encI m]) ⟨[(.len 29 (ch 0), sv 40), kt .lss 3 (sv 42) (sv 40), (.ixa 29 (ch 0) (sv 42), ch 2), (.ixa 29 (ch 1) (sv 42), ch 3), kt .neq 3 (sv 43) (sv 44)], [⟨3, 2, 1, 0, sv 43⟩, ⟨3, 3, 2, 1, sv 44⟩], []⟩ [] ⟨asLen u29 rfl (by kernel_rfl), qT ((i : Int) < (l.length : Int)), asIxaM u29 z3 rfl rfl (by omega) (by omega) rfl (by simp), asIxaM u29 z3 rfl rfl (by omega) (by omega) rfl (by simp), nT x y, trivial⟩ ⟨ld_one a3 rfl (encI_at _ _ _ hx) (by kernel_rfl), ld_one a3 rfl (encI_at _ _ _ hy) (by kernel_rfl), trivial⟩ trivial trivial 14 []
theorem si_miss {res : Value} (hl : l.length < 1000000) (he : l.length = m.length) (hi : i < l.length) (hx : l[i]? = some x) (hy : m[i]? = some y) (hne : x = y) (h : GoodS (dSI l m (i + 1)) Try.prog 61 (siH l m) res [] [] xSI) : GoodS (dSI l m i) Try.prog 61 (siH l m) res [] [] xSI := by
  · exact gS (dr newS [iv (l.length : Nat), iv (m.length : Nat), iv (i : Nat), iv x, iv y, iv ((i + 1 : Nat) : Int)] [oint 1 l, oint 2 m, .v (pt 1 (i)), .v (pt 2 (i))] [encI l, encI m]) (dSI l m (i + 1)) ⟨[(.len 29 (ch 0), sv 40), kt .lss 3 (sv 42) (sv 40), (.ixa 29 (ch 0) (sv 42), ch 2), (.ixa 29 (ch 1) (sv 42), ch 3), kf .neq 3 (sv 43) (sv 44), (.bin .add 3 (sv 42) (iv 1), sv 45)], [⟨3, 2, 1, 0, sv 43⟩, ⟨3, 3, 2, 1, sv 44⟩], []⟩ [] ⟨asLen u29 rfl (by kernel_rfl), qT ((i : Int) < (l.length : Int)), asIxaM u29 z3 rfl rfl (by omega) (by omega) rfl (by simp), asIxaM u29 z3 rfl rfl (by omega) (by omega) rfl (by simp), nF x y, asP (u := iv ((i + 1 : Nat) : Int)) (Eq.trans (b := some (iv (IntKind.i64.wrap ((i : Int) + 1)))) (by kernel_rfl) (by rw [wrap_id (by omega) (by omega)]; rfl)) (by kernel_rfl), trivial⟩ ⟨ld_one a3 rfl (encI_at _ _ _ hx) (by kernel_rfl), ld_one a3 rfl (encI_at _ _ _ hy) (by kernel_rfl), trivial⟩ trivial trivial 12 [(1, 1), (2, 2)] h
theorem si_end : GoodS (dSI l m l.length) Try.prog 61 (siH l m) (.bool true) [] [] xSI := by
  · exact gF (dr newS [iv (l.length : Nat), iv (m.length : Nat), iv (l.length : Nat)] [oint 1 l, oint 2 m] [encI l, encI m]) ⟨[(.len 29 (ch 0), sv 40), kf .lss 3 (sv 42) (sv 40)], [], []⟩ [] ⟨asLen u29 rfl (by kernel_rfl), qF ((l.length : Int) < (l.length : Int)), trivial⟩ trivial trivial trivial 10 []
end
theorem si_all {l m : List Int} (hl : l.length < 1000000) (he : l.length = m.length) : ∀ (k i : Nat), i + k = l.length → GoodS (dSI l m i) Try.prog 61 (siH l m) (.bool (decide (l.drop i = m.drop i))) [] [] xSI := by
  intro k
  induction k with
  | zero =>
    intro i hi
    have : i = l.length := by omega
    subst this
    rw [List.drop_length, he, List.drop_length, ← he, decide_eq_true rfl]
    exact si_end
  | succ k ih =>
    intro i hi
    have h1 : i < l.length := by omega
    have h2 : i < m.length := by omega
    have hx : l[i]? = some l[i] := by simp [h1]
    have hy : m[i]? = some m[i] := by simp [h2]
    rw [List.drop_eq_getElem_cons h1, List.drop_eq_getElem_cons h2]
    by_cases hxy : l[i] = m[i]
    · have h := ih (i + 1) (by omega)
      have e : (l[i] :: l.drop (i + 1) = m[i] :: m.drop (i + 1)) ↔ l.drop (i + 1) = m.drop (i + 1) := ⟨fun h => (List.cons.inj h).2, fun h => by rw [hxy, h]⟩
      rw [show decide (l[i] :: l.drop (i + 1) = m[i] :: m.drop (i + 1)) = decide (l.drop (i + 1) = m.drop (i + 1)) from decide_eq_decide.2 e]
      exact si_miss hl he h1 hx hy hxy h
    · rw [decide_eq_false (fun h => hxy (List.cons.inj h).1)]
      exact si_hit hl he h1 hx hy hxy
theorem sameInts_ctr (l m : List Int) (hl : l.length < 1000000) : Ctr Try.prog 61 [mSl 1 l.length INF, mSl 2 m.length INF] (siH l m) (.bool (decide (l = m))) [] := by
  by_cases he : l.length = m.length
  · have h := si_all hl he l.length 0 (Nat.zero_add _)
    rw [List.drop_zero, List.drop_zero] at h
    exact si_head he h
  · rw [decide_eq_false (fun e => he (by rw [e]))]
    exact si_ne he
theorem sameInts_self (l : List Int) (hl : l.length < 1000000) : Ctr Try.prog 61 [mSl 1 l.length INF, mSl 2 l.length INF] (siH l l) (.bool true) [] := by
  have h := sameInts_ctr l l hl
  rw [decide_eq_true rfl] at h
  exact h
theorem lenS (f : Nat → Bool) : (listTo f 8).length < 1000000 := by have := listTo_len f 8; omega
def ops8 (f g : Nat → Int) : Bool := (f 0 == g 0) && ((f 1 == g 1) && ((f 2 == g 2) && ((f 3 == g 3) && ((f 4 == g 4) && ((f 5 == g 5) && ((f 6 == g 6) && ((f 7 == g 7) && true)))))))
theorem ops8_self (f : Nat → Int) : ops8 f f = true := by simp [ops8]
def bkS (a b c : Nat) : Value := .agg #[sv 0, sv 1, .chan (some a), .chan (some b), sv 18, sv 19, sv 20, sv 21, sv 22, sv 23, sv 24, sv 25, .chan (some c), sv 27, sv 28, sv 40, sv 39]
def bkL (a b c : Nat) : List Value := [sv 0, sv 1, .chan (some a), .chan (some b), sv 18, sv 19, sv 20, sv 21, sv 22, sv 23, sv 24, sv 25, .chan (some c), sv 27, sv 28, sv 40, sv 39]
def sbA (lo : AObj) : HL := [(2, .mrow 3 1 true), (3, .mrow 3 2 true), (4, lo), (5, .mrow 3 1 true), (6, .mrow 3 2 true), (7, .mrow 34 0 true)]
def sbH (s : St) (lo : AObj) : HL := [(2, setO s.sh true), (3, setO s.pa true), (4, lo), (5, setO s.sh true), (6, setO s.pa true), (7, rowOr 34 (encL s.line) true)]
def eSI (a b c i j r r' : Nat) : Entry := { args := [.chan (some a), .chan (some b)], c := c, foots := [⟨i, 1, true, .mrow 3 r true, .mrow 3 r true⟩, ⟨j, 2, true, .mrow 3 r' true, .mrow 3 r' true⟩], news := [], res := .bool true }
def bkZ : Value := .agg #[.int .i64 0, .int .i64 0, .slice none 0 0, .slice none 0 0, .int .i64 0, .int .i64 0, .int .i64 0, .int .i64 0, .int .i64 0, .int .i64 0, .int .i64 0, .int .i64 0, .slice none 0 0, .int .i64 0, .int .i64 0, .bool false, .int .i64 0]
noncomputable def kSB : List KI := ((ksteps (@rec ⟨[], [], []⟩ Try.prog noTbl 100) 11 (startC Try.prog 19 [bkZ, bkZ] 8 [])).map (·.k)).getD []
noncomputable def xSB (lo : AObj) : Cfg := headC kSB .normal [(2, .pointer (some ⟨8, 0, none⟩)), (3, .pointer (some ⟨9, 0, none⟩)), (5, sv 42)] 89 10 (sbA lo ++ [(8, .row 36 (.lst (bkL 1 2 0)) false), (9, .row 36 (.lst (bkL 3 4 5)) false)])
noncomputable abbrev dSBp (s : St) (i : Nat) : Den := dr s [.bool (s.wt != 0), .int .i64 (s.line.length : Nat), .int .i64 (i : Nat)] [.v (lineV 4 s.line), oint 2 (listTo s.sh 8), oint 3 (listTo s.pa 8), oint 5 (listTo s.sh 8), oint 6 (listTo s.pa 8), olv 7 s.line] [encL s.line, encI (listTo s.sh 8), encI (listTo s.pa 8)]
theorem sbp_step {s : St} {i : Nat} {w : Int × Int} (hl : s.line.length < 1000000) (hi : i < s.line.length) (hget : s.line[i]? = some w) (h : GoodS (dSBp s (i + 1)) Try.prog 19 (sbH s (.row 34 (.lst (encL s.line)) true)) (.bool true) [] [] (xSB (.orow 34 0 true))) : GoodS (dSBp s i) Try.prog 19 (sbH s (.row 34 (.lst (encL s.line)) true)) (.bool true) [] [] (xSB (.orow 34 0 true)) := by
  · exact gS (dr s [.bool (s.wt != 0), iv (s.line.length : Nat), iv (i : Nat), iv w.1, iv w.2, iv w.1, iv w.2, iv ((i + 1 : Nat) : Int)] [.v (lineV 4 s.line), oint 2 (listTo s.sh 8), oint 3 (listTo s.pa 8), oint 5 (listTo s.sh 8), oint 6 (listTo s.pa 8), olv 7 s.line, .v (pt 4 (i * 2)), .v (pt 7 (i * 2))] [encL s.line, encI (listTo s.sh 8), encI (listTo s.pa 8)]) (dSBp s (i + 1)) ⟨[(.len 31 (ch 0), sv 41), kt .lss 3 (sv 42) (sv 41), (.ixa 31 (ch 0) (sv 42), ch 6), (.ixa 31 (ch 5) (sv 42), ch 7), kf .neq 34 (.agg #[sv 43, sv 44]) (.agg #[sv 45, sv 46]), (.bin .add 3 (sv 42) (iv 1), sv 47)], [⟨34, 6, 4, 0, .agg #[sv 43, sv 44]⟩, ⟨34, 7, 7, 0, .agg #[sv 45, sv 46]⟩], []⟩ [] ⟨asLen u31 rfl (by kernel_rfl), qT ((i : Int) < (s.line.length : Int)), asIxa u31 z34 rfl rfl (by omega) (by omega) rfl (by simp), asIxaM u31 z34 rfl rfl (by omega) (by omega) rfl (by simp), asNeA (c := true) (Eq.trans (b := some ((w.1 == w.1) && ((w.2 == w.2) && true))) (by kernel_rfl) (by simp)) rfl, asP (u := iv ((i + 1 : Nat) : Int)) (Eq.trans (b := some (iv (IntKind.i64.wrap ((i : Int) + 1)))) (by kernel_rfl) (by rw [wrap_id (by omega) (by omega)]; rfl)) (by kernel_rfl), trivial⟩ ⟨ld_agg a34 z34 rfl (show i * 2 + 2 ≤ (encL s.line).length by rw [encL_len]; omega) (encL_at s.line i w hget) rfl (by kernel_rfl), ld_agg a34 z34 rfl (show i * 2 + 2 ≤ (encL s.line).length by rw [encL_len]; omega) (encL_at s.line i w hget) rfl (by kernel_rfl), trivial⟩ trivial trivial 12 [(2, 2), (3, 3), (4, 4), (5, 5), (6, 6), (7, 7), (8, 8), (9, 9)] h
theorem sbp_end {s : St} : GoodS (dSBp s s.line.length) Try.prog 19 (sbH s (.row 34 (.lst (encL s.line)) true)) (.bool true) [] [] (xSB (.orow 34 0 true)) := by
  · exact gF (dr s [.bool (s.wt != 0), iv (s.line.length : Nat), iv (s.line.length : Nat)] [.v (lineV 4 s.line), oint 2 (listTo s.sh 8), oint 3 (listTo s.pa 8), oint 5 (listTo s.sh 8), oint 6 (listTo s.pa 8), olv 7 s.line] [encL s.line, encI (listTo s.sh 8), encI (listTo s.pa 8)]) ⟨[(.len 31 (ch 0), sv 41), kf .lss 3 (sv 42) (sv 41)], [], []⟩ [] ⟨asLen u31 rfl (by kernel_rfl), qF ((s.line.length : Int) < (s.line.length : Int)), trivial⟩ trivial trivial trivial 10 []
theorem sbp_all {s : St} (hl : s.line.length < 1000000) : ∀ (k i : Nat), i + k = s.line.length → GoodS (dSBp s i) Try.prog 19 (sbH s (.row 34 (.lst (encL s.line)) true)) (.bool true) [] [] (xSB (.orow 34 0 true))
  | 0, i, hi => by
    have : i = s.line.length := by omega
    subst this; exact sbp_end
  | k + 1, i, hi => by
    have h1 : i < s.line.length := by omega
    exact sbp_step (w := s.line[i]) hl h1 (by simp [h1]) (sbp_all hl k (i + 1) (by omega))
theorem sameBook_p {s : St} (hl : s.line.length < 1000000) : Ctr Try.prog 19 [bkG 2 3 (lineV 4 s.line) s, bkG 5 6 (lvR 7 s.line) s] (sbH s (.row 34 (.lst (encL s.line)) true)) (.bool true) [] := by
  have hL := sbp_all hl s.line.length 0 (Nat.zero_add _)
  · refine Ctr.of_goodS (d := (dr s [.bool (s.wt != 0), iv (s.line.length : Nat)] [.v (lineV 4 s.line), oint 2 (listTo s.sh 8), oint 3 (listTo s.pa 8), oint 5 (listTo s.sh 8), oint 6 (listTo s.pa 8), olv 7 s.line] [encL s.line, encI (listTo s.sh 8), encI (listTo s.pa 8)])) [] (c0 := 8) (A0 := sbA (.orow 34 0 true)) (args0 := [bkS 1 2 0, bkS 3 4 5]) (by kernel_rfl) (by kernel_rfl) (by kernel_rfl) ?_
    exact @goodS_seg (dr s [.bool (s.wt != 0), iv (s.line.length : Nat)] [.v (lineV 4 s.line), oint 2 (listTo s.sh 8), oint 3 (listTo s.pa 8), oint 5 (listTo s.sh 8), oint 6 (listTo s.pa 8), olv 7 s.line] [encL s.line, encI (listTo s.sh 8), encI (listTo s.pa 8)]) (dSBp s 0) Try.prog mixed ⟨[kf .neq 3 (sv 0) (sv 0), kf .neq 3 (sv 1) (sv 1), kf .neq 30 (.agg (v8 18)) (.agg (v8 18)), (.len 31 (ch 0), sv 41), (.len 31 (ch 5), sv 41), kf .neq 3 (sv 41) (sv 41), kf .neq 34 (.agg #[sv 27, sv 28]) (.agg #[sv 27, sv 28]), kf .neq 4 (sv 40) (sv 40), kf .neq 2 (sv 39) (sv 39)], [], []⟩ [(61, [eSI 1 3 10 2 5 1 1, eSI 2 4 10 3 6 2 2])] ⟨nF s.x s.x, nF s.owner s.owner, asNeA (c := true) (Eq.trans (b := some (ops8 s.ops s.ops)) (by kernel_rfl) (congrArg some (ops8_self _))) rfl, asLen u31 rfl (by kernel_rfl), asLen u31 rfl (by kernel_rfl), nF (s.line.length : Int) (s.line.length : Int), asNeA (c := true) (Eq.trans (b := some ((s.hn == s.hn) && ((s.hk == s.hk) && true))) (by kernel_rfl) (by simp)) rfl, asB (c := ((s.wt != 0) != (s.wt != 0))) (by kernel_rfl) (by simp), nF s.op s.op, trivial⟩ trivial trivial ⟨two_entry (entOK (sameInts_self (listTo s.sh 8) (lenS s.sh)) rfl (by kernel_rfl)) (entOK (sameInts_self (listTo s.pa 8) (lenS s.pa)) rfl (by kernel_rfl)), trivial⟩ 100 11 19 _ _ _ _ _ [(2, 2), (3, 3), (4, 4), (5, 5), (6, 6), (7, 7), (8, 8), (9, 9)] [] _ _ _ _ _ _ (by kernel_rfl) (by kernel_rfl) (by kernel_rfl) hL
end Go.Proofs.Ytjpgnjaobfbojaa
namespace Go.Proofs.Ytjpgnjaobfbojaa
open Go.Sx
set_option maxRecDepth 20000
structure Stp where
  k : Int
  n : Int
  m : Int
  op : Int
  psn : Int
instance : Inhabited Stp := ⟨⟨0, 0, 0, 0, 0⟩⟩
def encS : List Stp → List Value
  | [] => []
  | x :: l => .int .i64 x.k :: .int .i64 x.n :: .int .i64 x.m :: .int .i64 x.op :: .int .i64 x.psn :: encS l
theorem encS_plain : ∀ l : List Stp, (encS l).all plainS = true
  | [] => rfl
  | _ :: l => encS_plain l
theorem encS_len : ∀ l : List Stp, (encS l).length = l.length * 5
  | [] => rfl
  | _ :: l => by simp only [encS, List.length_cons, encS_len l]; omega
theorem encS_at : ∀ (l : List Stp) (i : Nat) (x : Stp), l[i]? = some x → ((encS l).drop (i * 5)).take 5 = [.int .i64 x.k, .int .i64 x.n, .int .i64 x.m, .int .i64 x.op, .int .i64 x.psn]
  | [], i, x, h => by simp at h
  | y :: l, 0, x, h => by simp at h; subst h; rfl
  | y :: l, i + 1, x, h => by
    simp only [List.getElem?_cons_succ] at h
    rw [show (i + 1) * 5 = i * 5 + 5 from by omega]
    exact encS_at l i x h
def stAt (l : List Stp) (i : Nat) : Stp := l[i]?.getD default
theorem st_len {l : List Stp} {i : Nat} (h : i < l.length) : i * 5 + 5 ≤ (encS l).length := by rw [encS_len]; omega
theorem st_row {l : List Stp} {i : Nat} (h : i < l.length) : ((encS l).drop (i * 5)).take 5 = [.int .i64 (stAt l i).k, .int .i64 (stAt l i).n, .int .i64 (stAt l i).m, .int .i64 (stAt l i).op, .int .i64 (stAt l i).psn] := by
  have hget : l[i]? = some l[i] := by simp [h]
  have : stAt l i = l[i] := by unfold stAt; rw [hget]; rfl
  rw [this]
  exact encS_at l i _ hget
noncomputable abbrev ds (s : St) (more : List Value) (opq : List OV) (rows : List (List Value)) (hm : more.all plainS = true := by rfl) (ho : opq.all OV.ok = true := by rfl) (hr : ∀ r ∈ rows, r.all plainS = true := by repeat first | exact rN | refine rC ?_ ?_ | exact encL_plain _ | exact encOrds_plain _ | exact encI_plain _ | exact encS_plain _) : Den := denR s more hm opq ho rows hr
theorem u22 : Go.Program.underlying Try.prog 22 = some (.slice 42) := by kernel_rfl
theorem z42 : sizeB Try.prog 42 = some 5 := by kernel_rfl
theorem a42 : aggB Try.prog 42 = some true := by kernel_rfl
def kskip : Nat → List KI → List KI
  | 0, k => k
  | m + 1, .code (.seq a b) :: k => kskip m (.code a :: .code b :: k)
  | m + 1, .code (.block id b) :: k => kskip m (.code b :: .blk id :: k)
  | m + 1, .code (.loop b) :: k => kskip m (.code b :: .lp b :: k)
  | m + 1, .code (.cond _ a b) :: k => bif hasLoop a then kskip m (.code a :: k) else bif hasLoop b then kskip m (.code b :: k) else kskip m k
  | m + 1, .code _ :: k => kskip m k
  | m + 1, .blk _ :: k => kskip m k
  | m + 1, .lp b :: k => kskip m (.code b :: .lp b :: k)
  | _ + 1, [] => []
def eKn (c : Nat) : Entry := { args := [], c := c, foots := [], news := [], res := .bool true }
def newN : List Value := cells newS (.slice none 0 0)
def newL (l : Nat) : List Value := cells newS (.slice (some ⟨l, 0, none⟩) 0 0)
theorem newR_ctr : Ctr Try.prog 14 [] [] (.pointer (some ⟨0, 0, none⟩)) (rlock 1 newS) :=
  ctr_ghost (B := bookR newS (.slice none 0 0) []) (Ctr.path mixed (denR newS [] rfl [] rfl [] no_rows) ⟨[], [], []⟩ [] trivial trivial trivial trivial (N := 200) (c0 := 0) (A0 := []) (args0 := []) (τ := [(0, 0)]) (ros := []) (by kernel_rfl) (by kernel_rfl) (by kernel_rfl)) 1 34 false rfl rfl
def eNewP (c : Nat) : Entry := { args := [], c := c, foots := [], news := [(0, .row 73 (.lst (newL (c + 1))) false), (1, .row 34 (.lst []) false)], res := .pointer (some ⟨c, 0, none⟩) }
def eNewR (c : Nat) : Entry := { args := [], c := c, foots := [], news := [(0, .row 52 (.lst newN) false), (1, .mrow 34 0 false)], res := .pointer (some ⟨c, 0, none⟩) }
def eDo (args : List Value) (c a la b lb : Nat) (ro lo ro2 lo2 : AObj) (i0 k j : Nat) : Entry := { args := args, c := c, foots := [⟨a, 0, false, ro, .row 73 (.lst (symsT i0 k)) false⟩, ⟨la, 1, false, lo, .dead⟩, ⟨b, 2, false, ro2, .row 52 (.lst (symsT i0 (k + 1))) false⟩, ⟨lb, 3, false, lo2, .dead⟩], news := [(4, .orow 34 j false), (5, mL j), (6, .mrow 45 (j + 1) false), (7, .mrow 45 (j + 1) false)], res := .tuple #[.chan (some (k + 2)), .chan (some (k + 3))] }
def bkT (i0 kk b : Nat) : Value := .agg #[sv i0, sv (i0 + 1), .chan (some kk), .chan (some (kk + 1)), sv (i0 + 18), sv (i0 + 19), sv (i0 + 20), sv (i0 + 21), sv (i0 + 22), sv (i0 + 23), sv (i0 + 24), sv (i0 + 25), .chan (some (kk + 2)), sv (i0 + 27), sv (i0 + 28), sv b, sv (i0 + 39)]
def eBk (c a li : Nat) (ro lo : AObj) (i0 kk b j1 j2 : Nat) (nl : AObj) : Entry := { args := [.pointer (some ⟨a, 0, none⟩)], c := c, foots := [⟨a, 0, false, ro, ro⟩, ⟨li, 1, false, lo, lo⟩], news := [(2, .mrow 3 j1 false), (3, .mrow 3 j2 false), (4, nl)], res := bkT i0 kk b }
def ftR : Nat → List (Nat × AObj) → List Foot
  | _, [] => []
  | b, (a, o) :: l => ⟨a, b, true, o, o⟩ :: ftR (b + 1) l
def eSB (x y : Value) (c : Nat) (l : List (Nat × AObj)) : Entry := { args := [x, y], c := c, foots := ftR 2 l, news := [], res := .bool true }
def twoE (t : St) (o : List Ord) : HL := [(0, .row 73 (.lst (cells t (lineV 4 t.line))) false), (1, .dead), (2, .row 52 (.lst (cells t (lvR 5 t.line))) false), (3, .dead), (4, .row 34 (.lst (encL t.line)) false), (5, lineO t.line), (6, outO o), (7, outO o)]
theorem DoC.get {k n m op psn : Int} {s t : St} {o : List Ord} (h : DoC k n m op psn s t o) : ∃ c1 c2, CapOK o c1 ∧ CapOK o c2 ∧ Ctr Try.prog 16 [.pointer (some ⟨0, 0, none⟩), .pointer (some ⟨2, 0, none⟩), stepV k n m op psn] (twoA s) (.tuple #[ordR 6 c1 o, ordR 7 c2 o]) (twoE t o) := by
  obtain ⟨c1, c2, h1, h2, h⟩ := h
  refine ⟨c1, c2, h1, h2, h.reB fun i => ?_⟩
  match i with
  | 0 => rfl
  | 1 => rfl
  | 2 => rfl
  | 3 => rfl
  | 4 => rfl
  | 5 => rfl
  | 6 => rfl
  | 7 => rfl
  | i + 8 => rfl
theorem newS_P2 : P2 newS := ⟨⟨⟨by simp [newS], by simp [newS], by simp [newS], by simp [newS], by simp [newS]⟩, fun _ => ⟨rfl, rfl⟩, fun h => absurd rfl h⟩, Kd.idle rfl⟩
end Go.Proofs.Ytjpgnjaobfbojaa
namespace Go.Proofs.Ytjpgnjaobfbojaa
open Go.Sx
theorem fit_cap (e : EI) {cap : Nat} (h : e.cap = cap) : capOf e (if cap < HALF then cap else INF) = cap := by
  unfold capOf
  by_cases hc : cap < HALF
  · rw [if_pos hc, if_pos hc]
  · rw [if_neg hc, if_neg (by decide +kernel), Nat.sub_self, Nat.sub_zero]; exact h
theorem add_none {a : Addr} (h : a.spot = none) (n : Nat) : a.add n = ⟨a.block, a.off + n, none⟩ := by
  unfold Addr.add
  by_cases h0 : n = 0
  · rw [if_pos h0]; subst h0; cases a; simp only at h; subst h; rfl
  · rw [if_neg h0]
theorem cell_at {w : World} {a : Addr} {v : Value} (h : w.cell? a = some v) : a.spot = none ∧ ∃ cells T fz, w.heap[a.block]? = some (.cells cells T fz) ∧ cells[a.off]? = some v := by
  unfold World.cell? at h
  split at h
  · rename_i c T fz hc
    split at h
    · cases h
    · rename_i hs
      refine ⟨?_, c, T, fz, hc, h⟩
      cases ha : a.spot with
      | none => rfl
      | some x => rw [ha] at hs; exact absurd rfl hs
  · cases h
theorem encS_app : ∀ l m : List Stp, encS (l ++ m) = encS l ++ encS m
  | [], _ => rfl
  | x :: l, m => by simp [encS, encS_app l m]
theorem steps_of {f : Nat → Option Value} : ∀ n : Nat, (∀ i, i < n → ∃ x : Stp, ∀ j v, (encS [x])[j]? = some v → f (i * 5 + j) = some v) → ∃ l : List Stp, l.length = n ∧ ∀ k v, (encS l)[k]? = some v → f k = some v
  | 0, _ => ⟨[], rfl, fun k v h => by simp [encS] at h⟩
  | n + 1, h => by
    obtain ⟨l, hl, hg⟩ := steps_of n fun i hi => h i (by omega)
    obtain ⟨x, hx⟩ := h n (by omega)
    refine ⟨l ++ [x], by simp [hl], fun k v hk => ?_⟩
    rw [encS_app] at hk
    by_cases hkn : k < (encS l).length
    · rw [List.getElem?_append_left hkn] at hk; exact hg k v hk
    · rw [List.getElem?_append_right (by omega)] at hk
      have hlen := encS_len l
      have := hx _ v hk
      rw [show n * 5 + (k - (encS l).length) = k from by omega] at this
      exact this
end Go.Proofs.Ytjpgnjaobfbojaa

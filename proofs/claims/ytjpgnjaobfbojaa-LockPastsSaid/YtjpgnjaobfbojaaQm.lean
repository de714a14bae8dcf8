import Derived.Test.YtjpgnjaobfbojaaQl
namespace Go.Proofs.Ytjpgnjaobfbojaa
open Go.Sx
def Kd (s : St) : Prop := (s.wt = 1 → s.hk = 2) ∧ (s.wt = 2 → s.hk = 1 ∨ s.hk = 2)
theorem Kd.idle {s : St} (h : s.wt = 0) : Kd s := ⟨fun h1 => by omega, fun h1 => by omega⟩
theorem Kd.of {s t : St} (h : Kd s) (h1 : t.wt = s.wt) (h2 : t.hk = s.hk) : Kd t := by unfold Kd; rw [h1, h2]; exact h
theorem beginS_K {nx : St → St × List Ord} {s : St} (hk : s.hk = 1) (hn : ∀ s, s.wt = 0 → Kd (nx s).1) : Kd (beginS nx s).1 := by
  unfold beginS
  split
  · exact hn _ rfl
  · split
    · exact hn _ rfl
    · exact ⟨fun h => absurd h (by show ¬ (2 : Int) = 1; omega), fun _ => .inl hk⟩
theorem beginE_K {nx : St → St × List Ord} {s : St} (hk : s.hk = 2) (hn : ∀ s, s.wt = 0 → Kd (nx s).1) : Kd (beginE nx s).1 := by
  unfold beginE
  split
  · exact hn _ rfl
  · dsimp only
    split
    · exact ⟨fun _ => hk, fun _ => .inr hk⟩
    · exact ⟨fun _ => hk, fun h => absurd h (by show ¬ (1 : Int) = 2; omega)⟩
theorem needM_K {nx : St → St × List Ord} {s : St} (hn : ∀ s, s.wt = 0 → Kd (nx s).1) : Kd (needM nx s).1 := hn _ rfl
theorem beginM_K {nx : St → St × List Ord} {s : St} (hn : ∀ s, s.wt = 0 → Kd (nx s).1) : Kd (beginM nx s).1 := by
  unfold beginM
  split
  · rename_i h; exact beginS_K h hn
  · split
    · rename_i h; exact beginE_K h hn
    · unfold beginC
      split
      · exact needM_K hn
      · exact ⟨fun h => absurd h (by show ¬ (3 : Int) = 1; omega), fun h => absurd h (by show ¬ (3 : Int) = 2; omega)⟩
theorem next_K : ∀ (n : Nat) (s : St), s.wt = 0 → Kd (nextM n s).1
  | 0, _, h => .idle h
  | n + 1, s, h => by
    unfold nextM
    split
    · exact .idle h
    · exact beginM_K (next_K n)
structure P2 (s : St) : Prop where
  post : Post s
  kd : Kd s
theorem lenFU {u : St} (hv : Inv u) (hl : u.line.length ≤ 1000) (pa : Nat → Bool) : (nextM FU (reset { u with pa := pa })).2.length < 1000000 := by
  have h := (next_of hv hl pa).2.len
  have e : (reset { u with pa := pa }).line.length = u.line.length := rfl
  rw [e] at h
  exact Nat.lt_of_le_of_lt h (by omega)
theorem doneFU {u : St} (hv : Inv u) (hl : u.line.length ≤ 1000) : RC 89 [] u (nextM FU (reset u)).1 (nextM FU (reset u)).2 := doneR FU u hl (by unfold FU; omega) hv
theorem invPa {u : St} (hv : Inv u) (pa : Nat → Bool) : Inv { u with pa := pa } := ⟨hv.x, hv.owner, hv.su, hv.op, hv.line⟩
theorem beginFU {u : St} (hv : Inv u) (hi : Hand u) (hk : 1 ≤ u.hk ∧ u.hk ≤ 3) (hl : u.line.length ≤ 1000) : RC 91 [] u (beginM (nextM FU) u).1 (beginM (nextM FU) u).2 :=
  beginR_ctr hv hi hk (lenFU hv hl) fun pa => doneFU (invPa hv pa) hl
theorem beginFU_S {u : St} (hv : Inv u) (hi : Hand u) (hk : u.hk = 1) (hl : u.line.length ≤ 1000) : RC 91 [] u (beginS (nextM FU) u).1 (beginS (nextM FU) u).2 := by
  have h := beginFU hv hi (by omega) hl
  unfold beginM at h
  rw [if_pos hk] at h
  exact h
theorem beginFU_E {u : St} (hv : Inv u) (hi : Hand u) (hk : u.hk = 2) (hl : u.line.length ≤ 1000) : RC 91 [] u (beginE (nextM FU) u).1 (beginE (nextM FU) u).2 := by
  have h := beginFU hv hi (by omega) hl
  unfold beginM at h
  rw [if_neg (by omega), if_pos hk] at h
  exact h
theorem needFU {u : St} (hv : Inv u) (hi : Hand u) (hl : u.line.length ≤ 1000) : RC 92 [] u (needM (nextM FU) u).1 (needM (nextM FU) u).2 := needlessR hi (lenFU hv hl _) (doneFU (invPa hv _) hl)
section
variable {s : St}
theorem wishR_out {n k : Int} (ho : ¬ (0 ≤ n ∧ n < 8)) : RC 55 [.agg #[.int .i64 n, .int .i64 k]] s s [] := by
  by_cases h : n < 0
  · exact wishR_lo h
  · exact wishR_hi (by omega) (by omega)
theorem wishR_ctr {n k : Int} (hp : Post s) (hb : s.op + s.line.length ≤ 900) (hn : 0 ≤ n ∧ n < 8) (hk : 1 ≤ k ∧ k ≤ 3) : RC 55 [.agg #[.int .i64 n, .int .i64 k]] s (wishM s n k).1 (wishM s n k).2 := by
  have hop := hp.inv.op
  unfold wishM
  by_cases hw : s.wt = 0
  · rw [if_pos hw]
    have ⟨hl, hr⟩ := hp.idle hw
    have hv : Inv { s with line := [(n, k)] } := ⟨hp.inv.x, hp.inv.owner, hp.inv.su, by show 0 ≤ s.op ∧ s.op + ((1 : Nat) : Int) < 4611686018427387904; omega, fun w hw => by
      obtain rfl := List.mem_singleton.1 hw
      exact ⟨hn.1, hn.2, hk.1, hk.2⟩⟩
    have h := doneFU hv (by show 1 ≤ 1000; omega)
    have e : reset { s with line := [(n, k)] } = { s with line := [(n, k)] } := by
      have : reset { s with line := [(n, k)] } = { reset s with line := [(n, k)] } := rfl
      rw [this, hr]
    rw [e] at h
    have h2 := wishR_begin hn hw h
    have e2 : { s with line := [] } = s := by cases s; simp only at hl; subst hl; rfl
    rw [e2] at h2
    exact h2
  · rw [if_neg hw]
    by_cases hh : s.hn = n ∧ s.hk = k
    · rw [if_pos hh]; exact wishR_hand hn hw hh
    · rw [if_neg hh]
      cases hl : s.line with
      | nil =>
        have e : { s with line := [] } = s := by cases s; simp only at hl; subst hl; rfl
        have h := wishR_first (s := s) hn hw hh
        rw [e] at h
        rw [if_neg (by simp)]
        exact h
      | cons x l =>
        have e : { s with line := x :: l } = s := by cases s; simp only at hl; subst hl; rfl
        rw [hl] at hb
        have h := wishR_line (s := s) (x := x) (l := l) hn (by omega) hw hh
        rw [e] at h
        by_cases hm : (n, k) ∈ x :: l
        · rw [if_pos hm]
          rw [if_pos hm, e] at h
          exact h
        · rw [if_neg hm]
          rw [if_neg hm] at h
          exact h
theorem wantR_ctr {n m : Int} (hp : Post s) (hb : s.op + s.line.length ≤ 900) : RC 54 [.int .i64 n, .int .i64 m] s (wantM s n m).1 (wantM s n m).2 := by
  unfold wantM
  by_cases hm : m = 1 ∨ m = 2
  · by_cases hn : 0 ≤ n ∧ n < 8
    · rw [if_pos ⟨hn, hm⟩]
      have h := wishR_ctr (n := n) (k := m) hp hb hn (by omega)
      rcases hm with rfl | rfl
      · exact wantR_1 h
      · exact wantR_2 h
    · rw [if_neg (fun h => hn h.1)]
      rcases hm with rfl | rfl
      · exact wantR_1 (wishR_out hn)
      · exact wantR_2 (wishR_out hn)
  · rw [if_neg (fun h => hm h.2)]; exact wantR_out hm
theorem cleanR_ctr {n : Int} (hp : Post s) (hb : s.op + s.line.length ≤ 900) : RC 55 [.agg #[.int .i64 n, .int .i64 3]] s (cleanM s n).1 (cleanM s n).2 := by
  unfold cleanM
  by_cases hn : 0 ≤ n ∧ n < 8
  · rw [if_pos hn]; exact wishR_ctr hp hb hn (by omega)
  · rw [if_neg hn]; exact wishR_out hn
theorem awayR_ctr {n : Int} (hv : Inv s) (hh : Hand s) (hk : s.hk = 2) (hl : s.line.length ≤ 1000) (hn : 0 ≤ n ∧ n < 8) : RC 90 [.int .i64 n] s (leftM s n).1 (leftM s n).2 := by
  have hv' : Inv (leftS s n) := ⟨hv.x, hv.owner, hv.su, hv.op, hv.line⟩
  unfold leftM
  by_cases hg : allOff (upd s.go n.toNat false) = true
  · rw [if_pos hg]; exact awayR_all hn hg (beginFU_E hv' hh hk hl)
  · rw [if_neg hg]; exact awayR_more hn (Bool.eq_false_iff.2 hg)
theorem goneR_ctr {n op : Int} (hp : P2 s) (hb : s.op + s.line.length ≤ 900) : RC 56 [.int .i64 n, .int .i64 op] s (goneMM s n op).1 (goneMM s n op).2 := by
  have hop := hp.post.inv.op
  unfold goneMM
  by_cases h : (0 ≤ n ∧ n < 8) ∧ s.wt = 1 ∧ op = s.op ∧ s.go n.toNat = true
  · rw [if_pos h]
    have ⟨b1, _⟩ := hp.post.busy (by rw [h.2.1]; omega)
    exact wentR_in h (awayR_ctr hp.post.inv b1 (hp.kd.1 h.2.1) (by omega) h.1)
  · rw [if_neg h]; exact wentR_out h
theorem gotR_ctr {n op : Int} (hp : P2 s) (hb : s.op + s.line.length ≤ 900) : RC 57 [.int .i64 n, .int .i64 op] s (gotM s n op).1 (gotM s n op).2 := by
  have hop := hp.post.inv.op
  unfold gotM
  by_cases h : s.wt = 2 ∧ op = s.op ∧ n = s.hn
  · rw [if_pos h]
    have ⟨b1, _⟩ := hp.post.busy (by rw [h.1]; omega)
    have ⟨hv, e1, e2⟩ := gotS_inv (n := n) (op := op) hp.post.inv (by have := b1.1; have := b1.2; omega)
    have h2 := doneFU hv (by rw [e2]; omega)
    exact gotR_in b1 hp.post.inv.su h (by rw [gotR_eq hp.post.inv.su.1]; exact h2)
  · rw [if_neg h]
    exact gotR_out (fun h => (hp.post.busy (by rw [h]; omega)).1) hp.post.inv.su (fun h2 => h h2.2)
theorem relR_ctr {n op : Int} (hp : P2 s) (hb : s.op + s.line.length ≤ 900) : RC 59 [.int .i64 n, .int .i64 op] s (relM s n op).1 (relM s n op).2 := by
  have hop := hp.post.inv.op
  have hv := relS_inv (n := n) hp.post.inv
  unfold relM
  by_cases hn : 0 ≤ n ∧ n < 8
  · rw [if_pos hn]
    by_cases h1 : s.wt = 1 ∧ s.go n.toNat = true
    · rw [if_pos h1]
      have ⟨b1, _⟩ := hp.post.busy (by rw [h1.1]; omega)
      exact relR_left (by omega) ⟨hn, h1⟩ (awayR_ctr (s := relS s n) hv b1 (hp.kd.1 h1.1) (by show s.line.length ≤ 1000; omega) hn)
    · rw [if_neg h1]
      by_cases h2 : s.wt = 2 ∧ s.su = n ∧ op < s.op
      · rw [if_pos h2]
        have ⟨b1, _⟩ := hp.post.busy (by rw [h2.1]; omega)
        have hv' : Inv { relS s n with op := s.op + 1 } := ⟨hv.x, hv.owner, hv.su, by show 0 ≤ s.op + 1 ∧ s.op + 1 + s.line.length < 4611686018427387904; omega, hv.line⟩
        by_cases hk : s.hk = 1
        · rw [if_pos hk]
          exact relR_beg (by omega) ⟨hn, h2⟩ (beginFU_S hv' b1 hk (by show s.line.length ≤ 1000; omega))
        · rw [if_neg hk]
          exact relR_beg (by omega) ⟨hn, h2⟩ (beginFU_E hv' b1 ((hp.kd.2 h2.1).resolve_left hk) (by show s.line.length ≤ 1000; omega))
      · rw [if_neg h2]
        by_cases h3 : s.wt = 3 ∧ s.owner = n
        · rw [if_pos h3]
          have ⟨b1, _⟩ := hp.post.busy (by rw [h3.1]; omega)
          exact relR_need (by omega) ⟨hn, h3⟩ (needFU hv b1 (by show s.line.length ≤ 1000; omega))
        · rw [if_neg h3]; exact relR_nil ⟨hn, h1, h2, h3⟩
  · rw [if_neg hn]; exact relR_out hn
theorem wroteR_ctr {n op psn : Int} (hp : P2 s) (hb : s.op + s.line.length ≤ 900) : RC 60 [.int .i64 n, .int .i64 op, .int .i64 psn] s (wroteM s n op psn).1 (wroteM s n op psn).2 := by
  have hop := hp.post.inv.op
  unfold wroteM
  by_cases hn : (0 ≤ n ∧ n < 8) ∧ 0 ≤ psn ∧ psn ≤ 2147483647
  · rw [if_pos hn]
    by_cases h1 : s.owner = n ∧ s.ops n.toNat = op ∧ s.wt = 3
    · rw [if_pos h1]
      have hv := wroteS_inv (n := n) hp.post.inv
      exact wroteR_w hn h1 (lenFU hv (by show s.line.length ≤ 1000; omega) (wroteS s n).pa) (doneFU hv (by show s.line.length ≤ 1000; omega))
    · rw [if_neg h1]; exact wroteR_t hn h1
  · rw [if_neg hn]; exact wroteR_out hn
theorem wish_K {n k : Int} (hk : Kd s) : Kd (wishM s n k).1 := by
  unfold wishM
  split
  · rename_i h; exact next_K _ _ h
  · split
    · exact hk
    · split
      · exact hk
      · exact hk.of rfl rfl
theorem want_K {n m : Int} (hk : Kd s) : Kd (wantM s n m).1 := by
  unfold wantM
  split
  · exact wish_K hk
  · exact hk
theorem clean_K {n : Int} (hk : Kd s) : Kd (cleanM s n).1 := by
  unfold cleanM
  split
  · exact wish_K hk
  · exact hk
theorem left_K {n : Int} (h2 : s.hk = 2) (hk : Kd s) : Kd (leftM s n).1 := by
  unfold leftM
  split
  · exact beginE_K h2 (next_K _)
  · exact hk.of rfl rfl
theorem gone_K {n op : Int} (hk : Kd s) : Kd (goneMM s n op).1 := by
  unfold goneMM
  split
  · rename_i h; exact left_K (hk.1 h.2.1) hk
  · exact hk
theorem got_K {n op : Int} (hk : Kd s) : Kd (gotM s n op).1 := by
  unfold gotM
  split
  · exact next_K _ _ rfl
  · exact hk
theorem rel_K {n op : Int} (hk : Kd s) : Kd (relM s n op).1 := by
  unfold relM
  split
  · split
    · rename_i h; exact left_K (s := relS s n) (hk.1 h.1) (hk.of rfl rfl)
    · split
      · rename_i h
        split
        · rename_i h1; exact beginS_K h1 (next_K _)
        · rename_i h1; exact beginE_K ((hk.2 h.1).resolve_left h1) (next_K _)
      · split
        · exact needM_K (next_K _)
        · exact hk.of rfl rfl
  · exact hk
theorem wrote_K {n op psn : Int} (hk : Kd s) : Kd (wroteM s n op psn).1 := by
  unfold wroteM
  split
  · split
    · exact next_K _ _ rfl
    · show Kd (wroteT s n op)
      unfold wroteT
      split
      · split
        · exact hk.of rfl rfl
        · exact hk
      · exact hk
  · exact hk
end
end Go.Proofs.Ytjpgnjaobfbojaa
namespace Go.Proofs.Ytjpgnjaobfbojaa
open Go.Sx
set_option maxRecDepth 20000
def heldM (s : St) (n op : Int) : Int := if op = -2 then s.op else if op = -1 then (if n ≥ 0 then (if n < 8 then s.ops n.toNat else op) else op) else op
theorem held_ctr (s : St) (k n m op psn : Int) : Ctr Try.prog 58 (lockP ++ [.agg #[.int .i64 k, .int .i64 n, .int .i64 m, .int .i64 op, .int .i64 psn]]) (rlock 1 s) (.int .i64 (heldM s n op)) (rlock 1 s) := by
  · by_cases h0 : ((op) : Int) = (-2)
    · simp only [heldM, if_pos h0]
      exact pth (dr s [iv k, iv n, iv m, iv op, iv psn] [olv 1 s.line] [encL s.line]) ⟨[kt .eql 2 (sv 43) (iv (-2))], [], []⟩ [] ⟨eT op (-2), trivial⟩ trivial trivial trivial 2 (rlockL []) (lockP ++ [.agg #[sv 40, sv 41, sv 42, sv 43, sv 44]]) [(0, 0), (1, 1)]
    · by_cases h1 : ((op) : Int) = (-1)
      · by_cases h2 : ((n) : Int) ≥ (0)
        · by_cases h3 : ((n) : Int) < (8)
          · simp only [heldM, if_neg h0, if_pos h1, if_pos h2, if_pos h3]
            exact pth (dr s [iv k, iv n, iv m, iv op, iv psn, iv (s.ops n.toNat)] [olv 1 s.line, .v (pt 0 (18 + n.toNat))] [encL s.line]) ⟨[kf .eql 2 (sv 43) (iv (-2)), kt .eql 2 (sv 43) (iv (-1)), kt .geq 3 (sv 41) (iv 0), kt .lss 3 (sv 41) (iv 8), kx 30 0 18 41 1], [], [([2, 1000000], eLdR 1 3 [] 1 0 45)]⟩ [] ⟨eF op (-2), eT op (-1), qT (n ≥ 0), qT (n < 8), iA u30 z2 rfl rfl, trivial⟩ trivial ⟨ld (lops s s.line n.toNat), trivial⟩ trivial 2 (rlockL []) (lockP ++ [.agg #[sv 40, sv 41, sv 42, sv 43, sv 44]]) [(0, 0), (1, 1)]
          · simp only [heldM, if_neg h0, if_pos h1, if_pos h2, if_neg h3]
            exact pth (dr s [iv k, iv n, iv m, iv op, iv psn] [olv 1 s.line] [encL s.line]) ⟨[kf .eql 2 (sv 43) (iv (-2)), kt .eql 2 (sv 43) (iv (-1)), kt .geq 3 (sv 41) (iv 0), kf .lss 3 (sv 41) (iv 8)], [], []⟩ [] ⟨eF op (-2), eT op (-1), qT (n ≥ 0), qF (n < 8), trivial⟩ trivial trivial trivial 2 (rlockL []) (lockP ++ [.agg #[sv 40, sv 41, sv 42, sv 43, sv 44]]) [(0, 0), (1, 1)]
        · simp only [heldM, if_neg h0, if_pos h1, if_neg h2]
          exact pth (dr s [iv k, iv n, iv m, iv op, iv psn] [olv 1 s.line] [encL s.line]) ⟨[kf .eql 2 (sv 43) (iv (-2)), kt .eql 2 (sv 43) (iv (-1)), kf .geq 3 (sv 41) (iv 0)], [], []⟩ [] ⟨eF op (-2), eT op (-1), qF (n ≥ 0), trivial⟩ trivial trivial trivial 2 (rlockL []) (lockP ++ [.agg #[sv 40, sv 41, sv 42, sv 43, sv 44]]) [(0, 0), (1, 1)]
      · simp only [heldM, if_neg h0, if_neg h1]
        exact pth (dr s [iv k, iv n, iv m, iv op, iv psn] [olv 1 s.line] [encL s.line]) ⟨[kf .eql 2 (sv 43) (iv (-2)), kf .eql 2 (sv 43) (iv (-1))], [], []⟩ [] ⟨eF op (-2), eF op (-1), trivial⟩ trivial trivial trivial 2 (rlockL []) (lockP ++ [.agg #[sv 40, sv 41, sv 42, sv 43, sv 44]]) [(0, 0), (1, 1)]
def plockB (t : St) (o : List Ord) : HL := [(0, .row 73 (.lst (cells t (lineV 3 t.line))) false), (1, .dead), (3, .row 34 (.lst (encL t.line)) false), (2, outO o)]
def PC (g : FuncId) (args : List Value) (s t : St) (o : List Ord) : Prop := ∃ cap, CapOK o cap ∧ Ctr Try.prog g (lockP ++ args) (lockA 1 s) (ordR 2 cap o) (plockB t o)
theorem MC.toPC {g : FuncId} {args : List Value} {s t : St} {o : List Ord} (h : MC g args s t o) : PC g args s t o := by
  obtain ⟨cap, hc, h⟩ := h
  cases o with
  | nil =>
    refine ⟨cap, hc, (ctr_ghost h 2 45 false rfl rfl).reB fun i => ?_⟩
    match i with
    | 0 => rfl
    | 1 => rfl
    | 2 => rfl
    | 3 => rfl
    | i + 4 => rfl
  | cons x l =>
    refine ⟨cap, hc, h.reB fun i => ?_⟩
    match i with
    | 0 => rfl
    | 1 => rfl
    | 2 => rfl
    | 3 => rfl
    | i + 4 => rfl
def twoL : HL := [(0, .row 73 (.lst (syms [])) false), (1, .orow 34 0 false), (2, .row 52 (.lst (syms [(26, .chan (some 1))])) false), (3, .mrow 34 0 false)]
def twoA (s : St) : HL := [(0, .row 73 (.lst (cells s (lineV 1 s.line))) false), (1, .row 34 (.lst (encL s.line)) false), (2, .row 52 (.lst (cells s (lvR 3 s.line))) false), (3, lineO s.line)]
def twoB0 (t : St) : HL := [(0, .row 73 (.lst (cells t (lineV 4 t.line))) false), (2, .row 52 (.lst (cells t (lvR 5 t.line))) false), (4, .row 34 (.lst (encL t.line)) false), (5, lineO t.line)]
def twoB (t : St) (o : List Ord) : HL := twoB0 t ++ [(6, outO o), (7, outO o)]
def twoD (t : St) (o : List Ord) : HL := twoB t o ++ [(1, .dead), (3, .dead)]
def eHe (args : List Value) (c i : Nat) : Entry := { args := args, c := c, foots := [⟨2, 0, false, rowR [(26, .chan (some 1))], rowR [(26, .chan (some 1))]⟩, ⟨3, 1, false, mL 0, mL 0⟩], news := [], res := sv i }
def eDp (args : List Value) (c i0 k j : Nat) : Entry := { args := args, c := c, foots := [⟨0, 0, false, rowX [], .row 73 (.lst (symsT i0 k)) false⟩, ⟨1, 1, false, .orow 34 0 false, .dead⟩], news := [(3, .orow 34 j false), (2, .mrow 45 (j + 1) false)], res := .chan (some (k + 1)) }
def eDr (args : List Value) (c i0 k j : Nat) : Entry := { args := args, c := c, foots := [⟨2, 0, false, rowR [(26, .chan (some 1))], .row 52 (.lst (symsT i0 k)) false⟩, ⟨3, 1, false, mL 0, .dead⟩], news := [(3, mL j), (2, .mrow 45 (j + 1) false)], res := .chan (some (k + 1)) }
def stepV (k n m op psn : Int) : Value := .agg #[.int .i64 k, .int .i64 n, .int .i64 m, .int .i64 op, .int .i64 psn]
def DoC (k n m op psn : Int) (s t : St) (o : List Ord) : Prop := ∃ c1 c2, CapOK o c1 ∧ CapOK o c2 ∧ Ctr Try.prog 16 [.pointer (some ⟨0, 0, none⟩), .pointer (some ⟨2, 0, none⟩), stepV k n m op psn] (twoA s) (.tuple #[ordR 6 c1 o, ordR 7 c2 o]) (twoD t o)
theorem DoC.mk {k n m op psn : Int} {s t : St} {o : List Ord} {c1 c2 : Nat} (h : Ctr Try.prog 16 [.pointer (some ⟨0, 0, none⟩), .pointer (some ⟨2, 0, none⟩), stepV k n m op psn] (twoA s) (.tuple #[ordR 6 c1 o, ordR 7 c2 o]) (twoB t o)) (h1 : CapOK o c1) (h2 : CapOK o c2) : DoC k n m op psn s t o :=
  ⟨c1, c2, h1, h2, ((h.addDead 1 rfl).addDead 3 rfl).reB fun i => by unfold twoD; rw [List.append_assoc]; rfl⟩
def opM (s : St) (op : Int) : Int := if op = -1 then s.op else op
section
variable {s t : St} {k n m op psn : Int} {o : List Ord}
theorem do_1 (hk : k = 1) (hp : PC 24 [.int .i64 n, .int .i64 m] s t o) (hr : RC 54 [.int .i64 n, .int .i64 m] s t o) : DoC k n m op psn s t o := by
  obtain ⟨cap, hcap, hP⟩ := hp
  obtain ⟨cap', hcap', hR⟩ := hr
  refine DoC.mk (c1 := cap) (c2 := cap') ?_ hcap hcap'
  · by_cases h0 : ((op) : Int) = (-1)
    · skip
      exact pth (dr s ([iv k, iv n, iv m, iv op, iv psn] ++ tv t) [.v (lineV 1 s.line), olv 3 s.line, .v (lineV 5 t.line), oord 6 cap o, olv 7 t.line, oord 8 cap' o] [encL s.line, encL t.line, encOrds o]) ⟨[kt .eql 2 (sv 43) (iv (-1)), kt .eql 3 (sv 40) (iv 1)], [], []⟩ [(24, [eDp [pt 0 0, sv 41, sv 42] 5 45 2 1]), (54, [eDr [pt 2 0, sv 41, sv 42] 7 45 4 1])] ⟨eT op (-1), eT k 1, trivial⟩ trivial trivial ⟨oe hP, oe (toD hR), trivial⟩ 4 (twoL) [pt 0 0, pt 2 0, .agg #[sv 40, sv 41, sv 42, sv 43, sv 44]] [(0, 0), (2, 2), (5, 4), (7, 5), (6, 6), (8, 7)]
    · skip
      exact pth (dr s ([iv k, iv n, iv m, iv op, iv psn] ++ tv t) [.v (lineV 1 s.line), olv 3 s.line, .v (lineV 5 t.line), oord 6 cap o, olv 7 t.line, oord 8 cap' o] [encL s.line, encL t.line, encOrds o]) ⟨[kf .eql 2 (sv 43) (iv (-1)), kt .eql 3 (sv 40) (iv 1)], [], []⟩ [(24, [eDp [pt 0 0, sv 41, sv 42] 5 45 2 1]), (54, [eDr [pt 2 0, sv 41, sv 42] 7 45 4 1])] ⟨eF op (-1), eT k 1, trivial⟩ trivial trivial ⟨oe hP, oe (toD hR), trivial⟩ 4 (twoL) [pt 0 0, pt 2 0, .agg #[sv 40, sv 41, sv 42, sv 43, sv 44]] [(0, 0), (2, 2), (5, 4), (7, 5), (6, 6), (8, 7)]
theorem do_2 (hk : k = 2) (hp : PC 25 [.int .i64 n] s t o) (hr : RC 55 [.agg #[.int .i64 n, .int .i64 3]] s t o) : DoC k n m op psn s t o := by
  obtain ⟨cap, hcap, hP⟩ := hp
  obtain ⟨cap', hcap', hR⟩ := hr
  refine DoC.mk (c1 := cap) (c2 := cap') ?_ hcap hcap'
  · by_cases h0 : ((op) : Int) = (-1)
    · skip
      exact pth (dr s ([iv k, iv n, iv m, iv op, iv psn] ++ tv t) [.v (lineV 1 s.line), olv 3 s.line, .v (lineV 5 t.line), oord 6 cap o, olv 7 t.line, oord 8 cap' o] [encL s.line, encL t.line, encOrds o]) ⟨[kt .eql 2 (sv 43) (iv (-1)), kf .eql 3 (sv 40) (iv 1), kt .eql 3 (sv 40) (iv 2)], [], []⟩ [(25, [eDp [pt 0 0, sv 41] 5 45 2 1]), (55, [eDr [pt 2 0, .agg #[sv 41, iv 3]] 7 45 4 1])] ⟨eT op (-1), eF k 1, eT k 2, trivial⟩ trivial trivial ⟨oe hP, oe (toD hR), trivial⟩ 4 (twoL) [pt 0 0, pt 2 0, .agg #[sv 40, sv 41, sv 42, sv 43, sv 44]] [(0, 0), (2, 2), (5, 4), (7, 5), (6, 6), (8, 7)]
    · skip
      exact pth (dr s ([iv k, iv n, iv m, iv op, iv psn] ++ tv t) [.v (lineV 1 s.line), olv 3 s.line, .v (lineV 5 t.line), oord 6 cap o, olv 7 t.line, oord 8 cap' o] [encL s.line, encL t.line, encOrds o]) ⟨[kf .eql 2 (sv 43) (iv (-1)), kf .eql 3 (sv 40) (iv 1), kt .eql 3 (sv 40) (iv 2)], [], []⟩ [(25, [eDp [pt 0 0, sv 41] 5 45 2 1]), (55, [eDr [pt 2 0, .agg #[sv 41, iv 3]] 7 45 4 1])] ⟨eF op (-1), eF k 1, eT k 2, trivial⟩ trivial trivial ⟨oe hP, oe (toD hR), trivial⟩ 4 (twoL) [pt 0 0, pt 2 0, .agg #[sv 40, sv 41, sv 42, sv 43, sv 44]] [(0, 0), (2, 2), (5, 4), (7, 5), (6, 6), (8, 7)]
theorem do_3 (hk : k = 3) (hp : PC 30 [.int .i64 n, .int .i64 (opM s op)] s t o) (hr : RC 56 [.int .i64 n, .int .i64 (opM s op)] s t o) : DoC k n m op psn s t o := by
  obtain ⟨cap, hcap, hP⟩ := hp
  obtain ⟨cap', hcap', hR⟩ := hr
  refine DoC.mk (c1 := cap) (c2 := cap') ?_ hcap hcap'
  · by_cases h0 : ((op) : Int) = (-1)
    · simp only [opM, if_pos h0] at hP hR
      exact pth (dr s ([iv k, iv n, iv m, iv op, iv psn] ++ tv t) [.v (lineV 1 s.line), olv 3 s.line, .v (lineV 5 t.line), oord 6 cap o, olv 7 t.line, oord 8 cap' o] [encL s.line, encL t.line, encOrds o]) ⟨[kt .eql 2 (sv 43) (iv (-1)), kf .eql 3 (sv 40) (iv 1), kf .eql 3 (sv 40) (iv 2), kt .eql 3 (sv 40) (iv 3)], [], []⟩ [(30, [eDp [pt 0 0, sv 41, sv 39] 5 45 2 1]), (56, [eDr [pt 2 0, sv 41, sv 39] 7 45 4 1])] ⟨eT op (-1), eF k 1, eF k 2, eT k 3, trivial⟩ trivial trivial ⟨oe hP, oe (toD hR), trivial⟩ 4 (twoL) [pt 0 0, pt 2 0, .agg #[sv 40, sv 41, sv 42, sv 43, sv 44]] [(0, 0), (2, 2), (5, 4), (7, 5), (6, 6), (8, 7)]
    · simp only [opM, if_neg h0] at hP hR
      exact pth (dr s ([iv k, iv n, iv m, iv op, iv psn] ++ tv t) [.v (lineV 1 s.line), olv 3 s.line, .v (lineV 5 t.line), oord 6 cap o, olv 7 t.line, oord 8 cap' o] [encL s.line, encL t.line, encOrds o]) ⟨[kf .eql 2 (sv 43) (iv (-1)), kf .eql 3 (sv 40) (iv 1), kf .eql 3 (sv 40) (iv 2), kt .eql 3 (sv 40) (iv 3)], [], []⟩ [(30, [eDp [pt 0 0, sv 41, sv 43] 5 45 2 1]), (56, [eDr [pt 2 0, sv 41, sv 43] 7 45 4 1])] ⟨eF op (-1), eF k 1, eF k 2, eT k 3, trivial⟩ trivial trivial ⟨oe hP, oe (toD hR), trivial⟩ 4 (twoL) [pt 0 0, pt 2 0, .agg #[sv 40, sv 41, sv 42, sv 43, sv 44]] [(0, 0), (2, 2), (5, 4), (7, 5), (6, 6), (8, 7)]
theorem do_4 (hk : k = 4) (hp : PC 31 [.int .i64 n, .int .i64 (opM s op)] s t o) (hr : RC 57 [.int .i64 n, .int .i64 (opM s op)] s t o) : DoC k n m op psn s t o := by
  obtain ⟨cap, hcap, hP⟩ := hp
  obtain ⟨cap', hcap', hR⟩ := hr
  refine DoC.mk (c1 := cap) (c2 := cap') ?_ hcap hcap'
  · by_cases h0 : ((op) : Int) = (-1)
    · simp only [opM, if_pos h0] at hP hR
      exact pth (dr s ([iv k, iv n, iv m, iv op, iv psn] ++ tv t) [.v (lineV 1 s.line), olv 3 s.line, .v (lineV 5 t.line), oord 6 cap o, olv 7 t.line, oord 8 cap' o] [encL s.line, encL t.line, encOrds o]) ⟨[kt .eql 2 (sv 43) (iv (-1)), kf .eql 3 (sv 40) (iv 1), kf .eql 3 (sv 40) (iv 2), kf .eql 3 (sv 40) (iv 3), kt .eql 3 (sv 40) (iv 4)], [], []⟩ [(31, [eDp [pt 0 0, sv 41, sv 39] 5 45 2 1]), (57, [eDr [pt 2 0, sv 41, sv 39] 7 45 4 1])] ⟨eT op (-1), eF k 1, eF k 2, eF k 3, eT k 4, trivial⟩ trivial trivial ⟨oe hP, oe (toD hR), trivial⟩ 4 (twoL) [pt 0 0, pt 2 0, .agg #[sv 40, sv 41, sv 42, sv 43, sv 44]] [(0, 0), (2, 2), (5, 4), (7, 5), (6, 6), (8, 7)]
    · simp only [opM, if_neg h0] at hP hR
      exact pth (dr s ([iv k, iv n, iv m, iv op, iv psn] ++ tv t) [.v (lineV 1 s.line), olv 3 s.line, .v (lineV 5 t.line), oord 6 cap o, olv 7 t.line, oord 8 cap' o] [encL s.line, encL t.line, encOrds o]) ⟨[kf .eql 2 (sv 43) (iv (-1)), kf .eql 3 (sv 40) (iv 1), kf .eql 3 (sv 40) (iv 2), kf .eql 3 (sv 40) (iv 3), kt .eql 3 (sv 40) (iv 4)], [], []⟩ [(31, [eDp [pt 0 0, sv 41, sv 43] 5 45 2 1]), (57, [eDr [pt 2 0, sv 41, sv 43] 7 45 4 1])] ⟨eF op (-1), eF k 1, eF k 2, eF k 3, eT k 4, trivial⟩ trivial trivial ⟨oe hP, oe (toD hR), trivial⟩ 4 (twoL) [pt 0 0, pt 2 0, .agg #[sv 40, sv 41, sv 42, sv 43, sv 44]] [(0, 0), (2, 2), (5, 4), (7, 5), (6, 6), (8, 7)]
theorem do_5 (hk : k = 5) (hp : PC 26 [.int .i64 n, .int .i64 (heldM s n op)] s t o) (hr : RC 59 [.int .i64 n, .int .i64 (heldM s n op)] s t o) : DoC k n m op psn s t o := by
  obtain ⟨cap, hcap, hP⟩ := hp
  obtain ⟨cap', hcap', hR⟩ := hr
  refine DoC.mk (c1 := cap) (c2 := cap') ?_ hcap hcap'
  · by_cases h0 : ((op) : Int) = (-1)
    · skip
      exact pth (dr s ([iv k, iv n, iv m, iv op, iv psn, iv (heldM s n op)] ++ tv t ++ [iv (heldM s n op)]) [.v (lineV 1 s.line), olv 3 s.line, .v (lineV 5 t.line), oord 6 cap o, olv 7 t.line, oord 8 cap' o] [encL s.line, encL t.line, encOrds o]) ⟨[kt .eql 2 (sv 43) (iv (-1)), kf .eql 3 (sv 40) (iv 1), kf .eql 3 (sv 40) (iv 2), kf .eql 3 (sv 40) (iv 3), kf .eql 3 (sv 40) (iv 4), kt .eql 3 (sv 40) (iv 5)], [], []⟩ [(58, [eHe [pt 2 0, .agg #[sv 40, sv 41, sv 42, sv 43, sv 44]] 5 45, eHe [pt 2 0, .agg #[sv 40, sv 41, sv 42, sv 43, sv 44]] 7 86]), (26, [eDp [pt 0 0, sv 41, sv 45] 5 46 2 1]), (59, [eDr [pt 2 0, sv 41, sv 86] 7 46 4 1])] ⟨eT op (-1), eF k 1, eF k 2, eF k 3, eF k 4, eT k 5, trivial⟩ trivial trivial ⟨two_entry (entOK (held_ctr s k n m op psn) rfl (by kernel_rfl)) (entOK (held_ctr s k n m op psn) rfl (by kernel_rfl)), oe hP, oe (toD hR), trivial⟩ 4 (twoL) [pt 0 0, pt 2 0, .agg #[sv 40, sv 41, sv 42, sv 43, sv 44]] [(0, 0), (2, 2), (5, 4), (7, 5), (6, 6), (8, 7)]
    · skip
      exact pth (dr s ([iv k, iv n, iv m, iv op, iv psn, iv (heldM s n op)] ++ tv t ++ [iv (heldM s n op)]) [.v (lineV 1 s.line), olv 3 s.line, .v (lineV 5 t.line), oord 6 cap o, olv 7 t.line, oord 8 cap' o] [encL s.line, encL t.line, encOrds o]) ⟨[kf .eql 2 (sv 43) (iv (-1)), kf .eql 3 (sv 40) (iv 1), kf .eql 3 (sv 40) (iv 2), kf .eql 3 (sv 40) (iv 3), kf .eql 3 (sv 40) (iv 4), kt .eql 3 (sv 40) (iv 5)], [], []⟩ [(58, [eHe [pt 2 0, .agg #[sv 40, sv 41, sv 42, sv 43, sv 44]] 5 45, eHe [pt 2 0, .agg #[sv 40, sv 41, sv 42, sv 43, sv 44]] 7 86]), (26, [eDp [pt 0 0, sv 41, sv 45] 5 46 2 1]), (59, [eDr [pt 2 0, sv 41, sv 86] 7 46 4 1])] ⟨eF op (-1), eF k 1, eF k 2, eF k 3, eF k 4, eT k 5, trivial⟩ trivial trivial ⟨two_entry (entOK (held_ctr s k n m op psn) rfl (by kernel_rfl)) (entOK (held_ctr s k n m op psn) rfl (by kernel_rfl)), oe hP, oe (toD hR), trivial⟩ 4 (twoL) [pt 0 0, pt 2 0, .agg #[sv 40, sv 41, sv 42, sv 43, sv 44]] [(0, 0), (2, 2), (5, 4), (7, 5), (6, 6), (8, 7)]
theorem do_6 (hk : k = 6) (hp : PC 32 [.int .i64 n, .int .i64 (heldM s n op), .int .i64 psn] s t o) (hr : RC 60 [.int .i64 n, .int .i64 (heldM s n op), .int .i64 psn] s t o) : DoC k n m op psn s t o := by
  obtain ⟨cap, hcap, hP⟩ := hp
  obtain ⟨cap', hcap', hR⟩ := hr
  refine DoC.mk (c1 := cap) (c2 := cap') ?_ hcap hcap'
  · by_cases h0 : ((op) : Int) = (-1)
    · skip
      exact pth (dr s ([iv k, iv n, iv m, iv op, iv psn, iv (heldM s n op)] ++ tv t ++ [iv (heldM s n op)]) [.v (lineV 1 s.line), olv 3 s.line, .v (lineV 5 t.line), oord 6 cap o, olv 7 t.line, oord 8 cap' o] [encL s.line, encL t.line, encOrds o]) ⟨[kt .eql 2 (sv 43) (iv (-1)), kf .eql 3 (sv 40) (iv 1), kf .eql 3 (sv 40) (iv 2), kf .eql 3 (sv 40) (iv 3), kf .eql 3 (sv 40) (iv 4), kf .eql 3 (sv 40) (iv 5), kt .eql 3 (sv 40) (iv 6)], [], []⟩ [(58, [eHe [pt 2 0, .agg #[sv 40, sv 41, sv 42, sv 43, sv 44]] 5 45, eHe [pt 2 0, .agg #[sv 40, sv 41, sv 42, sv 43, sv 44]] 7 86]), (32, [eDp [pt 0 0, sv 41, sv 45, sv 44] 5 46 2 1]), (60, [eDr [pt 2 0, sv 41, sv 86, sv 44] 7 46 4 1])] ⟨eT op (-1), eF k 1, eF k 2, eF k 3, eF k 4, eF k 5, eT k 6, trivial⟩ trivial trivial ⟨two_entry (entOK (held_ctr s k n m op psn) rfl (by kernel_rfl)) (entOK (held_ctr s k n m op psn) rfl (by kernel_rfl)), oe hP, oe (toD hR), trivial⟩ 4 (twoL) [pt 0 0, pt 2 0, .agg #[sv 40, sv 41, sv 42, sv 43, sv 44]] [(0, 0), (2, 2), (5, 4), (7, 5), (6, 6), (8, 7)]
    · skip
      exact pth (dr s ([iv k, iv n, iv m, iv op, iv psn, iv (heldM s n op)] ++ tv t ++ [iv (heldM s n op)]) [.v (lineV 1 s.line), olv 3 s.line, .v (lineV 5 t.line), oord 6 cap o, olv 7 t.line, oord 8 cap' o] [encL s.line, encL t.line, encOrds o]) ⟨[kf .eql 2 (sv 43) (iv (-1)), kf .eql 3 (sv 40) (iv 1), kf .eql 3 (sv 40) (iv 2), kf .eql 3 (sv 40) (iv 3), kf .eql 3 (sv 40) (iv 4), kf .eql 3 (sv 40) (iv 5), kt .eql 3 (sv 40) (iv 6)], [], []⟩ [(58, [eHe [pt 2 0, .agg #[sv 40, sv 41, sv 42, sv 43, sv 44]] 5 45, eHe [pt 2 0, .agg #[sv 40, sv 41, sv 42, sv 43, sv 44]] 7 86]), (32, [eDp [pt 0 0, sv 41, sv 45, sv 44] 5 46 2 1]), (60, [eDr [pt 2 0, sv 41, sv 86, sv 44] 7 46 4 1])] ⟨eF op (-1), eF k 1, eF k 2, eF k 3, eF k 4, eF k 5, eT k 6, trivial⟩ trivial trivial ⟨two_entry (entOK (held_ctr s k n m op psn) rfl (by kernel_rfl)) (entOK (held_ctr s k n m op psn) rfl (by kernel_rfl)), oe hP, oe (toD hR), trivial⟩ 4 (twoL) [pt 0 0, pt 2 0, .agg #[sv 40, sv 41, sv 42, sv 43, sv 44]] [(0, 0), (2, 2), (5, 4), (7, 5), (6, 6), (8, 7)]
theorem do_7 (hk : k ≠ 1 ∧ k ≠ 2 ∧ k ≠ 3 ∧ k ≠ 4 ∧ k ≠ 5 ∧ k ≠ 6) : DoC k n m op psn s s [] := by
  refine DoC.mk (c1 := INF) (c2 := INF) (ctr_ghost (ctr_ghost (B := twoB0 s) ?_ 6 45 false rfl rfl) 7 45 false rfl rfl) (.inl rfl) (.inl rfl)
  · by_cases h0 : ((op) : Int) = (-1)
    · skip
      exact pth (dr s [iv k, iv n, iv m, iv op, iv psn] [.v (lineV 1 s.line), olv 3 s.line] [encL s.line]) ⟨[kt .eql 2 (sv 43) (iv (-1)), kf .eql 3 (sv 40) (iv 1), kf .eql 3 (sv 40) (iv 2), kf .eql 3 (sv 40) (iv 3), kf .eql 3 (sv 40) (iv 4), kf .eql 3 (sv 40) (iv 5), kf .eql 3 (sv 40) (iv 6)], [], []⟩ [] ⟨eT op (-1), eF k 1, eF k 2, eF k 3, eF k 4, eF k 5, eF k 6, trivial⟩ trivial trivial trivial 4 (twoL) [pt 0 0, pt 2 0, .agg #[sv 40, sv 41, sv 42, sv 43, sv 44]] [(0, 0), (2, 2), (1, 4), (3, 5)]
    · skip
      exact pth (dr s [iv k, iv n, iv m, iv op, iv psn] [.v (lineV 1 s.line), olv 3 s.line] [encL s.line]) ⟨[kf .eql 2 (sv 43) (iv (-1)), kf .eql 3 (sv 40) (iv 1), kf .eql 3 (sv 40) (iv 2), kf .eql 3 (sv 40) (iv 3), kf .eql 3 (sv 40) (iv 4), kf .eql 3 (sv 40) (iv 5), kf .eql 3 (sv 40) (iv 6)], [], []⟩ [] ⟨eF op (-1), eF k 1, eF k 2, eF k 3, eF k 4, eF k 5, eF k 6, trivial⟩ trivial trivial trivial 4 (twoL) [pt 0 0, pt 2 0, .agg #[sv 40, sv 41, sv 42, sv 43, sv 44]] [(0, 0), (2, 2), (1, 4), (3, 5)]
end
def doM (s : St) (k n m op psn : Int) : St × List Ord :=
  if k = 1 then wantM s n m else if k = 2 then cleanM s n else if k = 3 then goneMM s n (opM s op) else if k = 4 then gotM s n (opM s op) else if k = 5 then relM s n (heldM s n op) else if k = 6 then wroteM s n (heldM s n op) psn else (s, [])
theorem do_ctr {s : St} (hp : P2 s) (hb : s.op + s.line.length ≤ 900) (k n m op psn : Int) : DoC k n m op psn s (doM s k n m op psn).1 (doM s k n m op psn).2 ∧ P2 (doM s k n m op psn).1 ∧ StepR s (doM s k n m op psn) := by
  unfold doM
  by_cases h1 : k = 1
  · rw [if_pos h1]
    have h := want_ctr (n := n) (m := m) hp.post hb
    exact ⟨do_1 h1 h.1.toPC (wantR_ctr hp.post hb), ⟨h.2.post, want_K hp.kd⟩, h.2⟩
  rw [if_neg h1]
  by_cases h2 : k = 2
  · rw [if_pos h2]
    have h := clean_ctr (n := n) hp.post hb
    exact ⟨do_2 h2 h.1.toPC (cleanR_ctr hp.post hb), ⟨h.2.post, clean_K hp.kd⟩, h.2⟩
  rw [if_neg h2]
  by_cases h3 : k = 3
  · rw [if_pos h3]
    have h := gone_ctr (n := n) (op := opM s op) hp.post hb
    exact ⟨do_3 h3 h.1.toPC (goneR_ctr hp hb), ⟨h.2.post, gone_K hp.kd⟩, h.2⟩
  rw [if_neg h3]
  by_cases h4 : k = 4
  · rw [if_pos h4]
    have h := got_ctr (n := n) (op := opM s op) hp.post hb
    exact ⟨do_4 h4 h.1.toPC (gotR_ctr hp hb), ⟨h.2.post, got_K hp.kd⟩, h.2⟩
  rw [if_neg h4]
  by_cases h5 : k = 5
  · rw [if_pos h5]
    have h := rel_ctr (n := n) (op := heldM s n op) hp.post hb
    exact ⟨do_5 h5 h.1.toPC (relR_ctr hp hb), ⟨h.2.post, rel_K hp.kd⟩, h.2⟩
  rw [if_neg h5]
  by_cases h6 : k = 6
  · rw [if_pos h6]
    have h := wrote_ctr (n := n) (op := heldM s n op) (psn := psn) hp.post hb
    exact ⟨do_6 h6 h.1.toPC (wroteR_ctr hp hb), ⟨h.2.post, wrote_K hp.kd⟩, h.2⟩
  rw [if_neg h6]
  exact ⟨do_7 ⟨h1, h2, h3, h4, h5, h6⟩, hp, StepR.keep hp.post⟩
end Go.Proofs.Ytjpgnjaobfbojaa
namespace Go.Proofs.Ytjpgnjaobfbojaa
open Go.Sx
set_option maxRecDepth 20000
abbrev oint (id : Nat) (l : List Int) : OV := .m id l.length INF
theorem listG_of {g : FuncId} {f : Nat → Bool} {l : List Int} (h : Ctr Try.prog g [bitsV f] [] (outI l) (outIH l)) : Ctr Try.prog g [bitsV f] [] (mSl 2 l.length INF) [(2, rowOr 3 (encI l) false)] := by
  cases l with
  | nil => exact ctr_ghost h 2 3 false rfl rfl
  | cons x l => exact h
theorem list52G (f : Nat → Bool) : Ctr Try.prog 52 [bitsV f] [] (mSl 2 (listTo f 8).length INF) [(2, rowOr 3 (encI (listTo f 8)) false)] := listG_of (list52_ctr f)
def eLs (b c j k : Nat) : Entry := { args := [.agg (v8 b)], c := c, foots := [], news := [(2, .mrow 3 j false)], res := .chan (some k) }
theorem asEqS {d : Den} {P : Program} {t e : TypeId} {i n c : Nat} {a : Addr} (hu : P.underlying t = some (.slice e)) (ho : d.o i = .slice (some a) n c) : @AK.Ok d P (.bin .eql t (.chan (some i)) (.slice none 0 0)) (.bool false) := asEqN hu ho
def lineA0 : HL := [(1, .row 34 (.lst []) true)]
def lineA : HL := [(1, .orow 34 0 true)]
def eCl (a c j k : Nat) : Entry := { args := [.slice (some ⟨a, 0, none⟩) 0 0, .chan (some 0)], c := c, foots := [⟨a, 0, true, .row 34 (.lst []) false, .row 34 (.lst []) false⟩, ⟨1, 1, true, .orow 34 0 true, .orow 34 0 true⟩], news := [(2, .orow 34 j false)], res := .chan (some k) }
theorem app_clone (x : Int × Int) (l : List (Int × Int)) (h : (x :: l).length < 1000000) : AppC Try.prog [31, 31] [.slice (some ⟨0, 0, none⟩) 0 0, .slice (some ⟨1, 0, none⟩) (x :: l).length INF] [(0, .row 34 (.lst []) true), (1, .row 34 (.lst (encL (x :: l))) true)] (.slice (some ⟨2, 0, none⟩) (x :: l).length INF) [(2, .row 34 (.lst (encL (x :: l))) false)] := by
  have h := AppC.cap (P := Try.prog) elemW (bl := []) (l := encL (x :: l)) (n := 0) (m := (x :: l).length) (off := 0) (cp := INF) (T := 34) (Tb := 34) rfl rfl (by simp) (by rw [encL_len]; simp only [List.length_cons]; omega) (encL_plain _) (by omega) (by unfold HALF; omega)
  have e : [] ++ ((encL (x :: l)).drop 0).take ((x :: l).length * 2) = encL (x :: l) := by
    rw [List.nil_append, List.drop_zero, List.take_of_length_le (by rw [encL_len]; omega)]
  rw [e, Nat.zero_add] at h
  exact h
theorem clone_nil : Ctr Try.prog 53 [lineV 1 []] [(1, .row 34 (.lst (encL [])) true)] (lineV 2 []) [(2, .row 34 (.lst (encL [])) false)] := by
  · skip
    exact pth (dr newS [] [.v (.bool false)] []) ⟨[], [], []⟩ [] trivial trivial trivial trivial 2 (lineA0) [.slice (some ⟨1, 0, none⟩) 0 0] [(2, 2)]
theorem clone_cons (x : Int × Int) (l : List (Int × Int)) (hl : (x :: l).length < 1000000) : Ctr Try.prog 53 [lineV 1 (x :: l)] [(1, .row 34 (.lst (encL (x :: l))) true)] (lineV 2 (x :: l)) [(2, .row 34 (.lst (encL (x :: l))) false)] := by
  · skip
    exact pth (dr newS [] [.v (lineV 1 (x :: l)), .v (lineV 3 (x :: l))] [encL (x :: l), encL (x :: l)]) ⟨[kf .eql 31 (ch 0) (.slice none 0 0)], [], [([31, 31], eCl 2 3 1 1)]⟩ [] ⟨asEqS u31 rfl, trivial⟩ trivial ⟨ap (app_clone x l hl), trivial⟩ trivial 2 (lineA) [ch 0] [(3, 2)]
theorem clone_ctr (l : List (Int × Int)) (hl : l.length < 1000000) : Ctr Try.prog 53 [lineV 1 l] [(1, .row 34 (.lst (encL l)) true)] (lineV 2 l) [(2, .row 34 (.lst (encL l)) false)] := by
  cases l with
  | nil => exact clone_nil
  | cons x l => exact clone_cons x l hl
def bkG (i j : Nat) (lv : Value) (s : St) : Value := .agg #[.int .i64 s.x, .int .i64 s.owner, mSl i (listTo s.sh 8).length INF, mSl j (listTo s.pa 8).length INF, .int .i64 (s.ops 0), .int .i64 (s.ops 1), .int .i64 (s.ops 2), .int .i64 (s.ops 3), .int .i64 (s.ops 4), .int .i64 (s.ops 5), .int .i64 (s.ops 6), .int .i64 (s.ops 7), lv, .int .i64 s.hn, .int .i64 s.hk, .bool (s.wt != 0), .int .i64 s.op]
def setO (f : Nat → Bool) (ro : Bool) : AObj := rowOr 3 (encI (listTo f 8)) ro
def bkH (s : St) (lo : AObj) : HL := [(2, setO s.sh false), (3, setO s.pa false), (4, lo)]
def eClE (c j k : Nat) : Entry := { args := [.chan (some 0)], c := c, foots := [⟨1, 1, true, .orow 34 0 false, .orow 34 0 false⟩], news := [(2, .orow 34 j false)], res := .chan (some k) }
theorem bookG_ctr {s : St} (hl : s.line.length < 1000000) : Ctr Try.prog 15 lockP (lockA 1 s) (bkG 2 3 (lineV 4 s.line) s) (lockA 1 s ++ bkH s (.row 34 (.lst (encL s.line)) false)) := by
  · skip
    exact pth (dr s [.bool (s.wt != 0)] [.v (lineV 1 s.line), oint 3 (listTo s.sh 8), oint 4 (listTo s.pa 8), .v (lineV 5 s.line)] [encL s.line, encI (listTo s.sh 8), encI (listTo s.pa 8), encL s.line]) ⟨[kt .neq 31 (ch 0) (.slice none 0 0), (.bin .neq 71 (sv 29) (iv 0), sv 40)], [], []⟩ [(52, [eLs 2 3 1 1, eLs 10 4 2 2]), (53, [eClE 5 3 3])] ⟨asNeS u31 rfl, asP (u := .bool (s.wt != 0)) (by kernel_rfl) (by kernel_rfl), trivial⟩ trivial trivial ⟨two_entry (entOK (list52G s.sh) rfl (by kernel_rfl)) (entOK (list52G s.pa) rfl (by kernel_rfl)), oe (clone_ctr s.line hl), trivial⟩ 2 (lockL []) lockP [(0, 0), (1, 1), (3, 2), (4, 3), (5, 4)]
theorem mSl_pos {id n c : Nat} (h : 0 < n) : mSl id n c = .slice (some ⟨id, 0, none⟩) n c := by cases n with
  | zero => omega
  | succ n => rfl
theorem asIxaM {d : Den} {P : Program} {t el : TypeId} {n len c a i r b off : Nat} {fk : FloatKind} {k : IntKind} {q : Int} (hu : P.underlying t = some (.slice el)) (hn : sizeB P el = some n) (ho : d.o a = mSl b len c) (hv : d.v i = .int k q) (h1 : 0 ≤ q) (h2 : q < len)
    (hr : d.o r = .pointer (some ⟨b, off, none⟩)) (hoff : off = 0 + q.toNat * n) : @AK.Ok d P (.ixa t (.chan (some a)) (.float fk i)) (.chan (some r)) := asIxa hu hn (ho.trans (mSl_pos (by omega))) hv h1 h2 hr hoff
theorem encI_at : ∀ (l : List Int) (i : Nat) (x : Int), l[i]? = some x → (encI l)[i]? = some (.int .i64 x)
  | [], i, x, h => by simp at h
  | y :: l, 0, x, h => by simp at h; subst h; rfl
  | y :: l, i + 1, x, h => by
    simp only [List.getElem?_cons_succ] at h
    simpa [encI] using encI_at l i x h
section
variable {l m : List Int} {i : Nat} {x y : Int}
end
end Go.Proofs.Ytjpgnjaobfbojaa
namespace Go.Proofs.Ytjpgnjaobfbojaa
open Go.Sx
set_option maxRecDepth 20000
structure Stp where
  k : Int
  n : Int
  m : Int
  op : Int
  psn : Int
instance : Inhabited Stp := ⟨⟨0, 0, 0, 0, 0⟩⟩
def encS : List Stp → List Value
  | [] => []
  | x :: l => .int .i64 x.k :: .int .i64 x.n :: .int .i64 x.m :: .int .i64 x.op :: .int .i64 x.psn :: encS l
theorem encS_plain : ∀ l : List Stp, (encS l).all plainS = true
  | [] => rfl
  | _ :: l => encS_plain l
theorem encS_len : ∀ l : List Stp, (encS l).length = l.length * 5
  | [] => rfl
  | _ :: l => by simp only [encS, List.length_cons, encS_len l]; omega
theorem encS_at : ∀ (l : List Stp) (i : Nat) (x : Stp), l[i]? = some x → ((encS l).drop (i * 5)).take 5 = [.int .i64 x.k, .int .i64 x.n, .int .i64 x.m, .int .i64 x.op, .int .i64 x.psn]
  | [], i, x, h => by simp at h
  | y :: l, 0, x, h => by simp at h; subst h; rfl
  | y :: l, i + 1, x, h => by
    simp only [List.getElem?_cons_succ] at h
    rw [show (i + 1) * 5 = i * 5 + 5 from by omega]
    exact encS_at l i x h
def stAt (l : List Stp) (i : Nat) : Stp := l[i]?.getD default
theorem st_len {l : List Stp} {i : Nat} (h : i < l.length) : i * 5 + 5 ≤ (encS l).length := by rw [encS_len]; omega
theorem st_row {l : List Stp} {i : Nat} (h : i < l.length) : ((encS l).drop (i * 5)).take 5 = [.int .i64 (stAt l i).k, .int .i64 (stAt l i).n, .int .i64 (stAt l i).m, .int .i64 (stAt l i).op, .int .i64 (stAt l i).psn] := by
  have hget : l[i]? = some l[i] := by simp [h]
  have : stAt l i = l[i] := by unfold stAt; rw [hget]; rfl
  rw [this]
  exact encS_at l i _ hget
noncomputable abbrev ds (s : St) (more : List Value) (opq : List OV) (rows : List (List Value)) (hm : more.all plainS = true := by rfl) (ho : opq.all OV.ok = true := by rfl) (hr : ∀ r ∈ rows, r.all plainS = true := by repeat first | exact rN | refine rC ?_ ?_ | exact encL_plain _ | exact encOrds_plain _ | exact encI_plain _ | exact encS_plain _) : Den := denR s more hm opq ho rows hr
abbrev stsV (l : List Stp) (cp : Nat) : Value := .slice (some ⟨5, 0, none⟩) l.length cp
theorem u22 : Go.Program.underlying Try.prog 22 = some (.slice 42) := by kernel_rfl
theorem z42 : sizeB Try.prog 42 = some 5 := by kernel_rfl
theorem a42 : aggB Try.prog 42 = some true := by kernel_rfl
def kskip : Nat → List KI → List KI
  | 0, k => k
  | m + 1, .code (.seq a b) :: k => kskip m (.code a :: .code b :: k)
  | m + 1, .code (.block id b) :: k => kskip m (.code b :: .blk id :: k)
  | m + 1, .code (.loop b) :: k => kskip m (.code b :: .lp b :: k)
  | m + 1, .code (.cond _ a b) :: k => bif hasLoop a then kskip m (.code a :: k) else bif hasLoop b then kskip m (.code b :: k) else kskip m k
  | m + 1, .code _ :: k => kskip m k
  | m + 1, .blk _ :: k => kskip m k
  | m + 1, .lp b :: k => kskip m (.code b :: .lp b :: k)
  | _ + 1, [] => []
def eKn (c : Nat) : Entry := { args := [], c := c, foots := [], news := [], res := .bool true }
def newN : List Value := cells newS (.slice none 0 0)
def newL (l : Nat) : List Value := cells newS (.slice (some ⟨l, 0, none⟩) 0 0)
theorem newR_ctr : Ctr Try.prog 14 [] [] (.pointer (some ⟨0, 0, none⟩)) (rlock 1 newS) :=
  ctr_ghost (B := bookR newS (.slice none 0 0) []) (Ctr.path mixed (denR newS [] rfl [] rfl [] no_rows) ⟨[], [], []⟩ [] trivial trivial trivial trivial (N := 200) (c0 := 0) (A0 := []) (args0 := []) (τ := [(0, 0)]) (ros := []) (by kernel_rfl) (by kernel_rfl) (by kernel_rfl)) 1 34 false rfl rfl
def eNewP (c : Nat) : Entry := { args := [], c := c, foots := [], news := [(0, .row 73 (.lst (newL (c + 1))) false), (1, .row 34 (.lst []) false)], res := .pointer (some ⟨c, 0, none⟩) }
def eNewR (c : Nat) : Entry := { args := [], c := c, foots := [], news := [(0, .row 52 (.lst newN) false), (1, .mrow 34 0 false)], res := .pointer (some ⟨c, 0, none⟩) }
def eDo (args : List Value) (c a la b lb : Nat) (ro lo ro2 lo2 : AObj) (i0 k j : Nat) : Entry := { args := args, c := c, foots := [⟨a, 0, false, ro, .row 73 (.lst (symsT i0 k)) false⟩, ⟨la, 1, false, lo, .dead⟩, ⟨b, 2, false, ro2, .row 52 (.lst (symsT i0 (k + 1))) false⟩, ⟨lb, 3, false, lo2, .dead⟩], news := [(4, .orow 34 j false), (5, mL j), (6, .mrow 45 (j + 1) false), (7, .mrow 45 (j + 1) false)], res := .tuple #[.chan (some (k + 2)), .chan (some (k + 3))] }
def bkT (i0 kk b : Nat) : Value := .agg #[sv i0, sv (i0 + 1), .chan (some kk), .chan (some (kk + 1)), sv (i0 + 18), sv (i0 + 19), sv (i0 + 20), sv (i0 + 21), sv (i0 + 22), sv (i0 + 23), sv (i0 + 24), sv (i0 + 25), .chan (some (kk + 2)), sv (i0 + 27), sv (i0 + 28), sv b, sv (i0 + 39)]
def eBk (c a li : Nat) (ro lo : AObj) (i0 kk b j1 j2 : Nat) (nl : AObj) : Entry := { args := [.pointer (some ⟨a, 0, none⟩)], c := c, foots := [⟨a, 0, false, ro, ro⟩, ⟨li, 1, false, lo, lo⟩], news := [(2, .mrow 3 j1 false), (3, .mrow 3 j2 false), (4, nl)], res := bkT i0 kk b }
def twoE (t : St) (o : List Ord) : HL := [(0, .row 73 (.lst (cells t (lineV 4 t.line))) false), (1, .dead), (2, .row 52 (.lst (cells t (lvR 5 t.line))) false), (3, .dead), (4, .row 34 (.lst (encL t.line)) false), (5, lineO t.line), (6, outO o), (7, outO o)]
theorem DoC.get {k n m op psn : Int} {s t : St} {o : List Ord} (h : DoC k n m op psn s t o) : ∃ c1 c2, CapOK o c1 ∧ CapOK o c2 ∧ Ctr Try.prog 16 [.pointer (some ⟨0, 0, none⟩), .pointer (some ⟨2, 0, none⟩), stepV k n m op psn] (twoA s) (.tuple #[ordR 6 c1 o, ordR 7 c2 o]) (twoE t o) := by
  obtain ⟨c1, c2, h1, h2, h⟩ := h
  refine ⟨c1, c2, h1, h2, h.reB fun i => ?_⟩
  match i with
  | 0 => rfl
  | 1 => rfl
  | 2 => rfl
  | 3 => rfl
  | 4 => rfl
  | 5 => rfl
  | 6 => rfl
  | 7 => rfl
  | i + 8 => rfl
theorem newS_P2 : P2 newS := ⟨⟨⟨by simp [newS], by simp [newS], by simp [newS], by simp [newS], by simp [newS]⟩, fun _ => ⟨rfl, rfl⟩, fun h => absurd rfl h⟩, Kd.idle rfl⟩
end Go.Proofs.Ytjpgnjaobfbojaa
namespace Go.Proofs.Ytjpgnjaobfbojaa
open Go.Sx
theorem fit_cap (e : EI) {cap : Nat} (h : e.cap = cap) : capOf e (if cap < HALF then cap else INF) = cap := by
  unfold capOf
  by_cases hc : cap < HALF
  · rw [if_pos hc, if_pos hc]
  · rw [if_neg hc, if_neg (by decide +kernel), Nat.sub_self, Nat.sub_zero]; exact h
theorem add_none {a : Addr} (h : a.spot = none) (n : Nat) : a.add n = ⟨a.block, a.off + n, none⟩ := by
  unfold Addr.add
  by_cases h0 : n = 0
  · rw [if_pos h0]; subst h0; cases a; simp only at h; subst h; rfl
  · rw [if_neg h0]
theorem cell_at {w : World} {a : Addr} {v : Value} (h : w.cell? a = some v) : a.spot = none ∧ ∃ cells T fz, w.heap[a.block]? = some (.cells cells T fz) ∧ cells[a.off]? = some v := by
  unfold World.cell? at h
  split at h
  · rename_i c T fz hc
    split at h
    · cases h
    · rename_i hs
      refine ⟨?_, c, T, fz, hc, h⟩
      cases ha : a.spot with
      | none => rfl
      | some x => rw [ha] at hs; exact absurd rfl hs
  · cases h
theorem call_slice {P : Program} {g : FuncId} {L : List Value} {len cap : Nat} {w : World} {a : Addr} {res : Value} {B : HL} (hl : len ≤ cap) {v0 : Value} (h0 : w.cell? a = some v0) (hL : ∀ k v, L[k]? = some v → w.cell? (a.add k) = some v) (hp : L.all plainS = true)
    (hc : ∀ T, Ctr P g [.slice (some ⟨5, 0, none⟩) len (if cap < HALF then cap else INF)] [(5, .row T (.lst L) true)] res B) :
    Calls P g #[.slice (some a) len cap] w fun e w' => (∃ v' E', e = .returned v' ∧ VR0 E' res v') ∧ Go.RowKit.Below w.heap.size w w' := by
  obtain ⟨hs, cells, T, fz, hb, _⟩ := cell_at h0
  let E : Env := fun i => if i = 5 then some ⟨a.block, a.off, cap⟩ else none
  have hE : ∀ {i : Nat} {e : EI}, E i = some e → i = 5 ∧ e = ⟨a.block, a.off, cap⟩ := fun {i e} h => by
    simp only [E] at h
    split at h
    · rename_i hi; cases h; exact ⟨hi, rfl⟩
    · cases h
  have hget : ∀ {i : Nat} {o : AObj}, (ofL [(5, .row T (.lst L) true)]).get i = some o → i = 5 ∧ o = .row T (.lst L) true := fun {i o} h => by
    rw [get_ofL] at h
    have := lkL_mem h
    simp only [List.mem_singleton, Prod.mk.injEq] at this
    exact this
  have hrow : HR0 P w (fun _ => False) E (ofL [(5, .row T (.lst L) true)]) w := by
    refine @HR.mk den0 _ _ _ _ _ _ ⟨rfl, rfl, rfl, Nat.le_refl _, fun _ _ _ => rfl⟩ (fun i e h => ?_) (fun i o h => ?_) (fun i j o p x y hne hi hj hlo hlp hw hx hy => ?_) (fun i o e hi hw _ => ?_)
    · rw [(hE h).1, get_ofL]; exact fun h => by cases h
    · obtain ⟨rfl, rfl⟩ := hget h
      refine ⟨⟨a.block, a.off, cap⟩, cells, rfl, ⟨fz, hb⟩, nofun, fun k v hk => ?_⟩
      rw [get_lst] at hk
      have h1 := hL k v hk
      rw [add_none hs] at h1
      obtain ⟨_, cells2, T2, fz2, hb2, h2⟩ := cell_at h1
      simp only at hb2 h2
      rw [hb] at hb2
      cases hb2
      have hpv := List.all_eq_true.1 hp v (List.mem_of_getElem? hk)
      exact ⟨v, h2, @VR.cleanS den0 _ _ (by cases v <;> first | rfl | (simp [plainS] at hpv)), by cases v <;> first | rfl | (simp [plainS] at hpv)⟩
    · obtain ⟨rfl, _⟩ := hget hi
      obtain ⟨rfl, _⟩ := hget hj
      exact absurd rfl hne
    · obtain ⟨_, rfl⟩ := hget hi
      cases hw
  have hargs : LR0 E [.slice (some ⟨5, 0, none⟩) len (if cap < HALF then cap else INF)] [.slice (some a) len cap] := by
    refine ⟨rfl, fun k x y hx hy => ?_⟩
    match k with
    | 0 =>
      simp only [List.getElem?_cons_zero, Option.some.injEq] at hx hy
      subst hx hy
      have hcap := fit_cap ⟨a.block, a.off, cap⟩ (cap := cap) rfl
      have := @VR.sl den0 E 5 0 len (if cap < HALF then cap else INF) ⟨a.block, a.off, cap⟩ a rfl (by rw [hcap]; exact hl) (.inl (by cases a; simp only at hs; subst hs; rfl))
      rw [hcap] at this
      exact this
    | k + 1 => simp at hx
  have := (hc T).2 w (fun _ => False) E [.slice (some a) len cap] hrow hargs Fence.wide 0 ⟨fun _ => trivial, rfl⟩
  exact (callsIn_wide.1 this).mono fun e w' ⟨v', E', h1, _, h3, h4⟩ => ⟨⟨v', E', h1, h4⟩, (@HR.keeps den0 _ _ _ _ _ _ h3).below⟩
theorem call_nil {P : Program} {g : FuncId} {w : World} {res : Value} {B : HL} (hc : Ctr P g [.slice none 0 0] [] res B) : Calls P g #[.slice none 0 0] w fun e w' => (∃ v' E', e = .returned v' ∧ VR0 E' res v') ∧ Go.RowKit.Below w.heap.size w w' := by
  have hargs : LR0 (fun _ => none) [.slice none 0 0] [.slice none 0 0] := ⟨rfl, fun k x y hx hy => by
    match k with
    | 0 =>
      simp only [List.getElem?_cons_zero, Option.some.injEq] at hx hy
      subst hx hy
      exact @VR.nilS den0 _
    | k + 1 => simp at hx⟩
  have := hc.2 w (fun _ => False) (fun _ => none) [.slice none 0 0] (@HR.start den0 P w) hargs Fence.wide 0 ⟨fun _ => trivial, rfl⟩
  exact (callsIn_wide.1 this).mono fun e w' ⟨v', E', h1, _, h3, h4⟩ => ⟨⟨v', E', h1, h4⟩, (@HR.keeps den0 _ _ _ _ _ _ h3).below⟩
theorem call_zero {P : Program} {g : FuncId} {w : World} {a : Addr} {res : Value} {B : HL} (hc : Ctr P g [.slice (some ⟨5, 0, none⟩) 0 0] [(5, .dead)] res B) : Calls P g #[.slice (some a) 0 0] w fun e w' => (∃ v' E', e = .returned v' ∧ VR0 E' res v') ∧ Go.RowKit.Below w.heap.size w w' := by
  let E : Env := fun i => if i = 5 then some ⟨0, 0, 0⟩ else none
  have hget : ∀ {i : Nat} {o : AObj}, (ofL [(5, .dead)]).get i = some o → i = 5 ∧ o = .dead := fun {i o} h => by
    rw [get_ofL] at h
    have := lkL_mem h
    simp only [List.mem_singleton, Prod.mk.injEq] at this
    exact this
  have hrow : HR0 P w (fun _ => False) E (ofL [(5, .dead)]) w := by
    refine @HR.mk den0 _ _ _ _ _ _ ⟨rfl, rfl, rfl, Nat.le_refl _, fun _ _ _ => rfl⟩ (fun i e h => ?_) (fun i o h => ?_) (fun i j o p x y hne hi hj hlo hlp hw hx hy => ?_) (fun i o e hi hw _ => ?_)
    · simp only [E] at h
      split at h
      · rename_i hi; subst hi; rw [get_ofL]; exact fun h => by cases h
      · cases h
    · obtain ⟨rfl, rfl⟩ := hget h; trivial
    · obtain ⟨rfl, rfl⟩ := hget hi; cases hlo
    · obtain ⟨rfl, rfl⟩ := hget hi; cases hw
  have hargs : LR0 E [.slice (some ⟨5, 0, none⟩) 0 0] [.slice (some a) 0 0] := by
    refine ⟨rfl, fun k x y hx hy => ?_⟩
    match k with
    | 0 =>
      simp only [List.getElem?_cons_zero, Option.some.injEq] at hx hy
      subst hx hy
      have hcap : capOf ⟨0, 0, 0⟩ 0 = 0 := by decide +kernel
      have := @VR.sl den0 E 5 0 0 0 ⟨0, 0, 0⟩ a rfl (Nat.zero_le _) (.inr hcap)
      rw [hcap] at this
      exact this
    | k + 1 => simp at hx
  have := hc.2 w (fun _ => False) E [.slice (some a) 0 0] hrow hargs Fence.wide 0 ⟨fun _ => trivial, rfl⟩
  exact (callsIn_wide.1 this).mono fun e w' ⟨v', E', h1, _, h3, h4⟩ => ⟨⟨v', E', h1, h4⟩, (@HR.keeps den0 _ _ _ _ _ _ h3).below⟩
theorem encS_app : ∀ l m : List Stp, encS (l ++ m) = encS l ++ encS m
  | [], _ => rfl
  | x :: l, m => by simp [encS, encS_app l m]
theorem steps_of {f : Nat → Option Value} : ∀ n : Nat, (∀ i, i < n → ∃ x : Stp, ∀ j v, (encS [x])[j]? = some v → f (i * 5 + j) = some v) → ∃ l : List Stp, l.length = n ∧ ∀ k v, (encS l)[k]? = some v → f k = some v
  | 0, _ => ⟨[], rfl, fun k v h => by simp [encS] at h⟩
  | n + 1, h => by
    obtain ⟨l, hl, hg⟩ := steps_of n fun i hi => h i (by omega)
    obtain ⟨x, hx⟩ := h n (by omega)
    refine ⟨l ++ [x], by simp [hl], fun k v hk => ?_⟩
    rw [encS_app] at hk
    by_cases hkn : k < (encS l).length
    · rw [List.getElem?_append_left hkn] at hk; exact hg k v hk
    · rw [List.getElem?_append_right (by omega)] at hk
      have hlen := encS_len l
      have := hx _ v hk
      rw [show n * 5 + (k - (encS l).length) = k from by omega] at this
      exact this
theorem law1 {g : FuncId} (hnil : Ctr Try.prog g [.slice none 0 0] [] (.bool true) []) (hzero : Ctr Try.prog g [.slice (some ⟨5, 0, none⟩) 0 0] [(5, .dead)] (.bool true) [(5, .dead)])
    (hall : ∀ (T : TypeId) (l : List Stp) (cp : Nat), Ctr Try.prog g [.slice (some ⟨5, 0, none⟩) l.length cp] [(5, .row T (.lst (encS l)) true)] (.bool true) []) (w : World) :
    (Calls Try.prog g #[.slice none 0 0] w fun e w' => e = .returned (.bool true) ∧ Go.RowKit.Below w.heap.size w w') ∧
    ∀ {a : Addr} {len cap : Nat}, len ≤ cap → (∀ i, i < cap → ∃ x : Stp, ∀ j v, (encS [x])[j]? = some v → w.cell? (a.add (i * 5 + j)) = some v) →
      Calls Try.prog g #[.slice (some a) len cap] w fun e w' => e = .returned (.bool true) ∧ Go.RowKit.Below w.heap.size w w' := by
  have fin : ∀ {e : Ending} {w' : World}, ((∃ v' E', e = .returned v' ∧ VR0 E' (.bool true) v') ∧ Go.RowKit.Below w.heap.size w w') → e = .returned (.bool true) ∧ Go.RowKit.Below w.heap.size w w' := fun {e w'} ⟨⟨v', E', h1, h2⟩, h3⟩ => by
    cases h2
    exact ⟨h1, h3⟩
  refine ⟨(call_nil hnil).mono fun _ _ => fin, fun {a len cap} hl hc => ?_⟩
  by_cases h0 : cap = 0
  · subst h0
    have : len = 0 := by omega
    subst this
    exact (call_zero hzero).mono fun _ _ => fin
  · obtain ⟨l, hn, hg⟩ := steps_of (f := fun k => w.cell? (a.add k)) len fun i hi => hc i (by omega)
    obtain ⟨x, hx⟩ := hc 0 (by omega)
    subst hn
    exact (call_slice hl (v0 := .int .i64 x.k) (hx 0 _ rfl) hg (encS_plain l) fun T => hall T l _).mono fun _ _ => fin
end Go.Proofs.Ytjpgnjaobfbojaa
namespace Go.Proofs.Ytjpgnjaobfbojaa
open Go.Sx
set_option maxRecDepth 20000
section
variable {l w : List (Int × Int)} {q i : Nat} {x y : Int × Int}
end
theorem fa45_0 (i o : Nat) : fieldAddrA Try.prog 45 (.pointer (some ⟨i, o, none⟩)) 0 = some (.pointer (some ⟨i, o + 0, none⟩)) := by kernel_rfl
theorem asFa0 {d : Den} {a r id o : Nat} (ho : d.o a = .pointer (some ⟨id, o, none⟩)) (hr : d.o r = .pointer (some ⟨id, o + 0, none⟩)) : @AK.Ok d Try.prog (.fa 45 (.chan (some a)) 0) (.chan (some r)) := asm_fa (by show fieldAddrA Try.prog 45 (d.o a) 0 = some (d.o r); rw [ho, hr]; exact fa45_0 id o)
theorem a43 : aggB Try.prog 43 = some false := by kernel_rfl
theorem ord_c {o : List Ord} {k : Nat} {x : Ord} (h : o[k]? = some x) {j : Nat} {v : Value} (hj : j < 6) (hv : (encOrd x)[j]? = some v) : (encOrds o)[k * 6 + j]? = some v := by
  have e := encOrds_at o k x h
  rw [← e, List.getElem?_take, if_pos hj, List.getElem?_drop] at hv
  exact hv
theorem ord_c0 {o : List Ord} {k : Nat} {x : Ord} (h : o[k]? = some x) : (encOrds o)[k * 6 + 0]? = some (.int .i64 x.kind) := ord_c h (by decide) rfl
end Go.Proofs.Ytjpgnjaobfbojaa
namespace Go.Proofs.Ytjpgnjaobfbojaa
open Go.Sx
set_option maxRecDepth 20000
theorem fa45_1 (i o : Nat) : fieldAddrA Try.prog 45 (.pointer (some ⟨i, o, none⟩)) 1 = some (.pointer (some ⟨i, o + 1, none⟩)) := by kernel_rfl
theorem fa42_0 (i o : Nat) : fieldAddrA Try.prog 42 (.pointer (some ⟨i, o, none⟩)) 0 = some (.pointer (some ⟨i, o + 0, none⟩)) := by kernel_rfl
theorem asFa1 {d : Den} {a r id o : Nat} (ho : d.o a = .pointer (some ⟨id, o, none⟩)) (hr : d.o r = .pointer (some ⟨id, o + 1, none⟩)) : @AK.Ok d Try.prog (.fa 45 (.chan (some a)) 1) (.chan (some r)) := asm_fa (by show fieldAddrA Try.prog 45 (d.o a) 1 = some (d.o r); rw [ho, hr]; exact fa45_1 id o)
theorem asFs0 {d : Den} {a r id o : Nat} (ho : d.o a = .pointer (some ⟨id, o, none⟩)) (hr : d.o r = .pointer (some ⟨id, o + 0, none⟩)) : @AK.Ok d Try.prog (.fa 42 (.chan (some a)) 0) (.chan (some r)) := asm_fa (by show fieldAddrA Try.prog 42 (d.o a) 0 = some (d.o r); rw [ho, hr]; exact fa42_0 id o)
theorem ord_c1 {o : List Ord} {k : Nat} {x : Ord} (h : o[k]? = some x) : (encOrds o)[k * 6 + 1]? = some (.int .i64 x.to) := ord_c h (by decide) rfl
theorem st_c0 {l : List Stp} {i : Nat} (h : i < l.length) : (encS l)[i * 5 + 0]? = some (.int .i64 (stAt l i).k) := by
  have e := st_row h
  have h0 : (((encS l).drop (i * 5)).take 5)[0]? = some (.int .i64 (stAt l i).k) := by rw [e]; rfl
  rw [List.getElem?_take, if_pos (by decide), List.getElem?_drop] at h0
  exact h0
theorem ld_set (T : TypeId) {q : Nat} (hq : q < 8) (f : Nat → Bool) : LdC Try.prog 4 (.pointer (some ⟨0, q, none⟩)) [(0, .row T (.lst (bitsL f)) false)] (.bool (f q)) := by
  refine LdC.cell [] a4 ?_
  rcases lt8 hq with rfl | rfl | rfl | rfl | rfl | rfl | rfl | rfl <;> rfl
def hP0 (T : TypeId) : HL := [(5, .orow T 1 true)]
def hP1 (T : TypeId) : HL := [(0, .row 73 (.lst (syms [])) false), (1, .orow 34 0 false), (2, .row 52 (.lst (syms [(26, .chan (some 1))])) false), (3, .mrow 34 0 false), (5, .orow T 1 true)]
def fS1 : FV := [(0, .chan (some 2)), (3, .pointer (some ⟨0, 0, none⟩)), (4, .pointer (some ⟨2, 0, none⟩)), (5, .pointer (some ⟨6, 0, none⟩)), (6, sv 40)]
def pRow (a : Nat) : AObj := .row 48 (.lst [sv a, sv (a + 1), sv (a + 2), sv (a + 3), sv (a + 4), sv (a + 5), sv (a + 6), sv (a + 7)]) false
def hS1 (T : TypeId) : HL := hP1 T ++ [(6, pRow 41)]
def wasC (a : Nat) : List Value := [sv a, sv (a + 1), .chan (some 3), .chan (some 4), sv (a + 2), sv (a + 3), sv (a + 4), sv (a + 5), sv (a + 6), sv (a + 7), sv (a + 8), sv (a + 9), .chan (some 5), sv (a + 10), sv (a + 11), sv (a + 12), sv (a + 13)]
def nowC (b x y z : Nat) : List Value := [sv 0, sv 1, .chan (some x), .chan (some y), sv 18, sv 19, sv 20, sv 21, sv 22, sv 23, sv 24, sv 25, .chan (some z), sv 27, sv 28, sv b, sv 39]
def hS2 (T : TypeId) : HL := hP1 T ++ [(6, pRow 42), (7, .row 36 (.lst (wasC 50)) false), (8, .mrow 3 2 false), (9, .mrow 3 3 false), (10, .orow 34 4 false), (11, .row 36 (.lst (nowC 64 6 7 8)) false), (12, .mrow 3 5 false), (13, .mrow 3 6 false), (14, .orow 34 0 false), (15, .mrow 45 7 false)]
def fS2 : FV := fS1 ++ [(7, .pointer (some ⟨7, 0, none⟩)), (8, .chan (some 9)), (10, .pointer (some ⟨11, 0, none⟩)), (11, sv 41)]
def hS3 (T : TypeId) : HL := hP1 T ++ [(6, pRow 42), (11, .row 36 (.lst (nowC 50 3 4 5)) false), (12, .mrow 3 2 false), (13, .mrow 3 3 false), (14, .orow 34 0 false)]
def fS3 : FV := fS1 ++ [(10, .pointer (some ⟨11, 0, none⟩)), (12, sv 41)]
def fS4 (b : Bool) : FV := fS3 ++ [(13, .bool b), (14, sv 51)]
def kout : List KI → List KI
  | .blk _ :: k => k
  | _ :: k => kout k
  | [] => []
noncomputable def kS1 : List KI := kskip 17 [.code (codeOf Try.prog 4)]
noncomputable def kS2 : List KI := kskip 17 kS1
noncomputable def kS3 : List KI := kskip 8 (kout kS2)
noncomputable def kS4 : List KI := kskip 13 kS3
noncomputable def xS1 (T : TypeId) : Cfg := headC kS1 .normal fS1 121 7 (hS1 T)
noncomputable def xS2 (T : TypeId) : Cfg := headC kS2 .normal fS2 121 16 (hS2 T)
noncomputable def xS3 (T : TypeId) : Cfg := headC kS3 .normal fS3 121 15 (hS3 T)
noncomputable def xS4 (T : TypeId) (b : Bool) : Cfg := headC kS4 .normal (fS4 b) 121 15 (hS3 T)
noncomputable abbrev dS1 (s : St) (sts : List Stp) (cp : Nat) (p : Nat → Bool) (i : Nat) : Den := ds s ([.int .i64 (i : Nat)] ++ bitsL p) [.v (lineV 1 s.line), olv 3 s.line, .v (stsV sts cp)] [encL s.line, encS sts]
noncomputable abbrev dS2 (u s : St) (sts : List Stp) (cp : Nat) (p : Nat → Bool) (o : List Ord) (c i k : Nat) : Den := ds s ([.int .i64 (i : Nat), .int .i64 (k : Nat)] ++ bitsL p ++ [.int .i64 u.x, .int .i64 u.owner, .int .i64 (u.ops 0), .int .i64 (u.ops 1), .int .i64 (u.ops 2), .int .i64 (u.ops 3), .int .i64 (u.ops 4), .int .i64 (u.ops 5), .int .i64 (u.ops 6), .int .i64 (u.ops 7), .int .i64 u.hn, .int .i64 u.hk, .bool (u.wt != 0), .int .i64 u.op] ++ [.bool (s.wt != 0)]) [.v (lineV 1 s.line), olv 3 s.line, .v (stsV sts cp), oint 8 (listTo u.sh 8), oint 9 (listTo u.pa 8), .v (lineV 10 u.line), oint 12 (listTo s.sh 8), oint 13 (listTo s.pa 8), .v (lineV 14 s.line), oord 15 c o] [encL s.line, encS sts, encI (listTo u.sh 8), encI (listTo u.pa 8), encL u.line, encI (listTo s.sh 8), encI (listTo s.pa 8), encOrds o]
noncomputable abbrev dS3 (s : St) (sts : List Stp) (cp : Nat) (p : Nat → Bool) (i n : Nat) : Den := ds s ([.int .i64 (i : Nat), .int .i64 (n : Nat)] ++ bitsL p ++ [.bool (s.wt != 0)]) [.v (lineV 1 s.line), olv 3 s.line, .v (stsV sts cp), oint 12 (listTo s.sh 8), oint 13 (listTo s.pa 8), .v (lineV 14 s.line)] [encL s.line, encS sts, encI (listTo s.sh 8), encI (listTo s.pa 8)]
noncomputable abbrev dS4 (s : St) (sts : List Stp) (cp : Nat) (p : Nat → Bool) (i n k : Nat) : Den := ds s ([.int .i64 (i : Nat), .int .i64 (n : Nat)] ++ bitsL p ++ [.bool (s.wt != 0), .int .i64 (k : Nat)]) [.v (lineV 1 s.line), olv 3 s.line, .v (stsV sts cp), oint 12 (listTo s.sh 8), oint 13 (listTo s.pa 8), .v (lineV 14 s.line)] [encL s.line, encS sts, encI (listTo s.sh 8), encI (listTo s.pa 8)]
def GS (T : TypeId) (sts : List Stp) (d : Den) (x : Cfg) : Prop := GoodS d Try.prog 4 [(5, .row T (.lst (encS sts)) true)] (.bool true) [] [] x
section
variable {s t u : St} {sts : List Stp} {cp i k c n : Nat} {o : List Ord} {x : Ord} {y : Int} {p : Nat → Bool} {T : TypeId}
theorem pasts_end : GS T sts (dS1 s sts cp p sts.length) (xS1 T) := by
  · exact gF (ds s ([iv (sts.length : Nat)] ++ b8 p) [.v (lineV 1 s.line), olv 3 s.line, .v (stsV sts cp)] [encL s.line, encS sts]) ⟨[(.len 22 (ch 2), sv 40), kf .lss 3 (sv 40) (sv 40)], [], []⟩ [(12, [eKn 7])] ⟨asLen u22 rfl (by kernel_rfl), qF ((sts.length : Int) < (sts.length : Int)), trivial⟩ trivial trivial ⟨oe known_ctr, trivial⟩ 10 []
theorem pasts_step {c1 c2 : Nat} (hi : i < sts.length) (hl0 : s.line.length < 100000) (hl : t.line.length < 100000) (hD : Ctr Try.prog 16 [.pointer (some ⟨0, 0, none⟩), .pointer (some ⟨2, 0, none⟩), stepV (stAt sts i).k (stAt sts i).n (stAt sts i).m (stAt sts i).op (stAt sts i).psn] (twoA s) (.tuple #[ordR 6 c1 o, ordR 7 c2 o]) (twoE t o)) (hg : GS T sts (dS2 s t sts cp p o c1 i 0) (xS2 T)) : GS T sts (dS1 s sts cp p i) (xS1 T) := by
  · exact gS (ds s ([iv (i : Nat)] ++ b8 p ++ [iv (sts.length : Nat), .bool (s.wt != 0), iv (stAt sts i).k, iv (stAt sts i).n, iv (stAt sts i).m, iv (stAt sts i).op, iv (stAt sts i).psn] ++ tv t ++ [.bool (t.wt != 0)]) [.v (lineV 1 s.line), olv 3 s.line, .v (stsV sts cp), oint 7 (listTo s.sh 8), oint 8 (listTo s.pa 8), .v (lineV 9 s.line), .v (pt 5 (i * 5)), .v (lineV 11 t.line), olv 12 t.line, oord 13 c1 o, oord 14 c2 o, oint 15 (listTo t.sh 8), oint 16 (listTo t.pa 8), .v (lineV 17 t.line)] [encL s.line, encS sts, encI (listTo s.sh 8), encI (listTo s.pa 8), encL t.line, encOrds o, encI (listTo t.sh 8), encI (listTo t.pa 8)]) (dS2 s t sts cp p o c1 i 0) ⟨[(.len 22 (ch 2), sv 49), kt .lss 3 (sv 40) (sv 49), (.ixa 22 (ch 2) (sv 40), ch 6)], [⟨42, 6, 5, 1, .agg #[sv 51, sv 52, sv 53, sv 54, sv 55]⟩], []⟩ [(15, [eBk 7 0 1 (.row 73 (.lst (syms [])) false) (.orow 34 0 false) 0 3 50 2 3 (.orow 34 0 false), eBk 15 0 11 (.row 73 (.lst (symsT 56 7)) false) (.orow 34 4 false) 56 11 96 6 7 (.orow 34 4 false)]), (16, [eDo [pt 0 0, pt 2 0, .agg #[sv 51, sv 52, sv 53, sv 54, sv 55]] 11 0 1 2 3 (.row 73 (.lst (syms [])) false) (.orow 34 0 false) (.row 52 (.lst (syms [(26, ch 1)])) false) (.mrow 34 0 false) 56 7 4])] ⟨asLen u22 rfl (by kernel_rfl), qT ((i : Int) < (sts.length : Int)), asIxa u22 z42 rfl rfl (by omega) (by omega) rfl (by simp), trivial⟩ ⟨ld_agg a42 z42 rfl (st_len hi) (st_row hi) rfl (by kernel_rfl), trivial⟩ trivial ⟨two_entry (entOK (bookG_ctr (s := s) (by omega)) rfl (by kernel_rfl)) (entOK (bookG_ctr (s := t) (by omega)) rfl (by kernel_rfl)), oe hD, trivial⟩ 17 [(0, 0), (11, 1), (2, 2), (12, 3), (5, 5), (6, 6), (10, 7), (7, 8), (8, 9), (9, 10), (18, 11), (15, 12), (16, 13), (17, 14), (13, 15)] hg
theorem s2_ord (ho : o.length < 100000) (hget : o[k]? = some x) (hto : x.kind = 6 → 0 ≤ x.to ∧ x.to < 8) (h6 : x.kind = 6 → GS T sts (dS2 u s sts cp (upd p x.to.toNat false) o c i (k + 1)) (xS2 T)) (hn : x.kind ≠ 6 → GS T sts (dS2 u s sts cp p o c i (k + 1)) (xS2 T)) : GS T sts (dS2 u s sts cp p o c i k) (xS2 T) := by
  have hk := (List.getElem?_eq_some_iff.1 hget).1
  · by_cases h0 : ((x.kind) : Int) = (6)
    · exact gS (ds s ([iv (i : Nat), iv (k : Nat)] ++ b8 p ++ [iv u.x, iv u.owner] ++ n8 u.ops ++ [iv u.hn, iv u.hk, .bool (u.wt != 0), iv u.op, .bool (s.wt != 0), iv (o.length : Nat), iv x.kind, iv x.to] ++ b8 (upd (p) x.to.toNat false) ++ [iv ((k + 1 : Nat) : Int)]) [.v (lineV 1 s.line), olv 3 s.line, .v (stsV sts cp), oint 8 (listTo u.sh 8), oint 9 (listTo u.pa 8), .v (lineV 10 u.line), oint 12 (listTo s.sh 8), oint 13 (listTo s.pa 8), .v (lineV 14 s.line), oord 15 c o, .v (pt 15 (k * 6)), .v (pt 15 (k * 6 + 0)), .v (pt 15 (k * 6 + 1)), .v (pt 6 (x.to.toNat))] [encL s.line, encS sts, encI (listTo u.sh 8), encI (listTo u.pa 8), encL u.line, encI (listTo s.sh 8), encI (listTo s.pa 8), encOrds o]) (dS2 u s sts cp (upd p x.to.toNat false) o c i (k + 1)) ⟨[(.len 28 (ch 9), sv 65), kt .lss 3 (sv 41) (sv 65), (.ixa 28 (ch 9) (sv 41), ch 10), (.fa 45 (ch 10) 0, ch 11), kt .eql 43 (sv 66) (iv 6), (.fa 45 (ch 10) 1, ch 12), kx 48 6 0 67 13, (.bin .add 3 (sv 41) (iv 1), sv 76)], [⟨43, 11, 15, 7, sv 66⟩, ⟨3, 12, 15, 7, sv 67⟩], [([4, 1000001], { args := [ch 13, .bool false], c := 16, hids := [], foots := [⟨6, 0, false, .row 48 (.lst [sv 42, sv 43, sv 44, sv 45, sv 46, sv 47, sv 48, sv 49]) false, .row 48 (.lst [sv 68, sv 69, sv 70, sv 71, sv 72, sv 73, sv 74, sv 75]) false⟩], news := [], res := .bool false })]⟩ [] ⟨asLen u28 rfl (by kernel_rfl), qT ((k : Int) < (o.length : Int)), asIxaM u28 z45 rfl rfl (by omega) (by omega) rfl (by simp), asFa0 rfl rfl, eT x.kind 6, asFa1 rfl rfl, iA u48 z4 rfl rfl, asP (u := iv ((k + 1 : Nat) : Int)) (Eq.trans (b := some (iv (IntKind.i64.wrap ((k : Int) + 1)))) (by kernel_rfl) (by rw [wrap_id (by omega) (by omega)]; rfl)) (by kernel_rfl), trivial⟩ ⟨ld_one a43 rfl (ord_c0 hget) (by kernel_rfl), ld_one a3 rfl (ord_c1 hget) (by kernel_rfl), trivial⟩ ⟨st (st_set 48 (q := x.to.toNat) (by omega) (p) false), trivial⟩ trivial 12 [(0, 0), (1, 1), (2, 2), (3, 3), (5, 5), (6, 6), (7, 7), (8, 8), (9, 9), (10, 10), (11, 11), (12, 12), (13, 13), (14, 14), (15, 15)] (h6 (by omega))
    · exact gS (ds s ([iv (i : Nat), iv (k : Nat)] ++ b8 p ++ [iv u.x, iv u.owner] ++ n8 u.ops ++ [iv u.hn, iv u.hk, .bool (u.wt != 0), iv u.op, .bool (s.wt != 0), iv (o.length : Nat), iv x.kind, iv ((k + 1 : Nat) : Int)]) [.v (lineV 1 s.line), olv 3 s.line, .v (stsV sts cp), oint 8 (listTo u.sh 8), oint 9 (listTo u.pa 8), .v (lineV 10 u.line), oint 12 (listTo s.sh 8), oint 13 (listTo s.pa 8), .v (lineV 14 s.line), oord 15 c o, .v (pt 15 (k * 6)), .v (pt 15 (k * 6 + 0))] [encL s.line, encS sts, encI (listTo u.sh 8), encI (listTo u.pa 8), encL u.line, encI (listTo s.sh 8), encI (listTo s.pa 8), encOrds o]) (dS2 u s sts cp p o c i (k + 1)) ⟨[(.len 28 (ch 9), sv 65), kt .lss 3 (sv 41) (sv 65), (.ixa 28 (ch 9) (sv 41), ch 10), (.fa 45 (ch 10) 0, ch 11), kf .eql 43 (sv 66) (iv 6), (.bin .add 3 (sv 41) (iv 1), sv 67)], [⟨43, 11, 15, 7, sv 66⟩], []⟩ [] ⟨asLen u28 rfl (by kernel_rfl), qT ((k : Int) < (o.length : Int)), asIxaM u28 z45 rfl rfl (by omega) (by omega) rfl (by simp), asFa0 rfl rfl, eF x.kind 6, asP (u := iv ((k + 1 : Nat) : Int)) (Eq.trans (b := some (iv (IntKind.i64.wrap ((k : Int) + 1)))) (by kernel_rfl) (by rw [wrap_id (by omega) (by omega)]; rfl)) (by kernel_rfl), trivial⟩ ⟨ld_one a43 rfl (ord_c0 hget) (by kernel_rfl), trivial⟩ trivial trivial 12 [(0, 0), (1, 1), (2, 2), (3, 3), (5, 5), (6, 6), (7, 7), (8, 8), (9, 9), (10, 10), (11, 11), (12, 12), (13, 13), (14, 14), (15, 15)] (hn (by omega))
theorem s2_end (hi : i < sts.length) (hown : u.owner < 8) (hT : u.owner ≥ 0 → s.owner ≥ 0 → u.owner ≠ s.owner → (stAt sts i).k = 4 → u.x ≠ s.x → GS T sts (dS3 s sts cp (upd p u.owner.toNat true) i 0) (xS3 T)) (hF : ¬ (u.owner ≥ 0 ∧ s.owner ≥ 0 ∧ u.owner ≠ s.owner ∧ (stAt sts i).k = 4 ∧ u.x ≠ s.x) → GS T sts (dS3 s sts cp p i 0) (xS3 T)) : GS T sts (dS2 u s sts cp p o c i o.length) (xS2 T) := by
  · by_cases h0 : ((u.owner) : Int) ≥ (0)
    · by_cases h1 : ((s.owner) : Int) ≥ (0)
      · by_cases h2 : ((u.owner) : Int) = (s.owner)
        · exact gS (ds s ([iv (i : Nat), iv (o.length : Nat)] ++ b8 p ++ [iv u.x, iv u.owner] ++ n8 u.ops ++ [iv u.hn, iv u.hk, .bool (u.wt != 0), iv u.op, .bool (s.wt != 0)]) [.v (lineV 1 s.line), olv 3 s.line, .v (stsV sts cp), oint 8 (listTo u.sh 8), oint 9 (listTo u.pa 8), .v (lineV 10 u.line), oint 12 (listTo s.sh 8), oint 13 (listTo s.pa 8), .v (lineV 14 s.line), oord 15 c o] [encL s.line, encS sts, encI (listTo u.sh 8), encI (listTo u.pa 8), encL u.line, encI (listTo s.sh 8), encI (listTo s.pa 8), encOrds o]) (dS3 s sts cp p i 0) ⟨[(.len 28 (ch 9), sv 41), kf .lss 3 (sv 41) (sv 41), kt .geq 3 (sv 51) (iv 0), kt .geq 3 (sv 1) (iv 0), kf .neq 3 (sv 51) (sv 1)], [], []⟩ [] ⟨asLen u28 rfl (by kernel_rfl), qF ((o.length : Int) < (o.length : Int)), qT (u.owner ≥ 0), qT (s.owner ≥ 0), nF u.owner s.owner, trivial⟩ trivial trivial trivial 15 [(0, 0), (1, 1), (2, 2), (3, 3), (5, 5), (6, 6), (11, 11), (12, 12), (13, 13), (14, 14)] (hF (by omega))
        · by_cases h3 : (((stAt sts i).k) : Int) = (4)
          · by_cases h4 : ((u.x) : Int) = (s.x)
            · exact gS (ds s ([iv (i : Nat), iv (o.length : Nat)] ++ b8 p ++ [iv u.x, iv u.owner] ++ n8 u.ops ++ [iv u.hn, iv u.hk, .bool (u.wt != 0), iv u.op, .bool (s.wt != 0), iv (stAt sts i).k]) [.v (lineV 1 s.line), olv 3 s.line, .v (stsV sts cp), oint 8 (listTo u.sh 8), oint 9 (listTo u.pa 8), .v (lineV 10 u.line), oint 12 (listTo s.sh 8), oint 13 (listTo s.pa 8), .v (lineV 14 s.line), oord 15 c o, .v (pt 5 (i * 5)), .v (pt 5 (i * 5 + 0))] [encL s.line, encS sts, encI (listTo u.sh 8), encI (listTo u.pa 8), encL u.line, encI (listTo s.sh 8), encI (listTo s.pa 8), encOrds o]) (dS3 s sts cp p i 0) ⟨[(.len 28 (ch 9), sv 41), kf .lss 3 (sv 41) (sv 41), kt .geq 3 (sv 51) (iv 0), kt .geq 3 (sv 1) (iv 0), kt .neq 3 (sv 51) (sv 1), (.ixa 22 (ch 2) (sv 40), ch 10), (.fa 42 (ch 10) 0, ch 11), kt .eql 3 (sv 65) (iv 4), kf .neq 3 (sv 50) (sv 0)], [⟨3, 11, 5, 1, sv 65⟩], []⟩ [] ⟨asLen u28 rfl (by kernel_rfl), qF ((o.length : Int) < (o.length : Int)), qT (u.owner ≥ 0), qT (s.owner ≥ 0), nT u.owner s.owner, asIxa u22 z42 rfl rfl (by omega) (by omega) rfl (by simp), asFs0 rfl rfl, eT (((stAt sts i).k) : Int) 4, nF u.x s.x, trivial⟩ ⟨ld_one a3 rfl (st_c0 hi) (by kernel_rfl), trivial⟩ trivial trivial 15 [(0, 0), (1, 1), (2, 2), (3, 3), (5, 5), (6, 6), (11, 11), (12, 12), (13, 13), (14, 14)] (hF (by omega))
            · exact gS (ds s ([iv (i : Nat), iv (o.length : Nat)] ++ b8 p ++ [iv u.x, iv u.owner] ++ n8 u.ops ++ [iv u.hn, iv u.hk, .bool (u.wt != 0), iv u.op, .bool (s.wt != 0), iv (stAt sts i).k] ++ b8 (upd (p) u.owner.toNat true)) [.v (lineV 1 s.line), olv 3 s.line, .v (stsV sts cp), oint 8 (listTo u.sh 8), oint 9 (listTo u.pa 8), .v (lineV 10 u.line), oint 12 (listTo s.sh 8), oint 13 (listTo s.pa 8), .v (lineV 14 s.line), oord 15 c o, .v (pt 5 (i * 5)), .v (pt 5 (i * 5 + 0)), .v (pt 6 (u.owner.toNat))] [encL s.line, encS sts, encI (listTo u.sh 8), encI (listTo u.pa 8), encL u.line, encI (listTo s.sh 8), encI (listTo s.pa 8), encOrds o]) (dS3 s sts cp (upd p u.owner.toNat true) i 0) ⟨[(.len 28 (ch 9), sv 41), kf .lss 3 (sv 41) (sv 41), kt .geq 3 (sv 51) (iv 0), kt .geq 3 (sv 1) (iv 0), kt .neq 3 (sv 51) (sv 1), (.ixa 22 (ch 2) (sv 40), ch 10), (.fa 42 (ch 10) 0, ch 11), kt .eql 3 (sv 65) (iv 4), kt .neq 3 (sv 50) (sv 0), kx 48 6 0 51 12], [⟨3, 11, 5, 1, sv 65⟩], [([4, 1000001], { args := [ch 12, .bool true], c := 16, hids := [], foots := [⟨6, 0, false, .row 48 (.lst [sv 42, sv 43, sv 44, sv 45, sv 46, sv 47, sv 48, sv 49]) false, .row 48 (.lst [sv 66, sv 67, sv 68, sv 69, sv 70, sv 71, sv 72, sv 73]) false⟩], news := [], res := .bool false })]⟩ [] ⟨asLen u28 rfl (by kernel_rfl), qF ((o.length : Int) < (o.length : Int)), qT (u.owner ≥ 0), qT (s.owner ≥ 0), nT u.owner s.owner, asIxa u22 z42 rfl rfl (by omega) (by omega) rfl (by simp), asFs0 rfl rfl, eT (((stAt sts i).k) : Int) 4, nT u.x s.x, iA u48 z4 rfl rfl, trivial⟩ ⟨ld_one a3 rfl (st_c0 hi) (by kernel_rfl), trivial⟩ ⟨st (st_set 48 (q := u.owner.toNat) (by omega) (p) true), trivial⟩ trivial 15 [(0, 0), (1, 1), (2, 2), (3, 3), (5, 5), (6, 6), (11, 11), (12, 12), (13, 13), (14, 14)] (hT (by omega) (by omega) (by omega) (by omega) (by omega))
          · exact gS (ds s ([iv (i : Nat), iv (o.length : Nat)] ++ b8 p ++ [iv u.x, iv u.owner] ++ n8 u.ops ++ [iv u.hn, iv u.hk, .bool (u.wt != 0), iv u.op, .bool (s.wt != 0), iv (stAt sts i).k]) [.v (lineV 1 s.line), olv 3 s.line, .v (stsV sts cp), oint 8 (listTo u.sh 8), oint 9 (listTo u.pa 8), .v (lineV 10 u.line), oint 12 (listTo s.sh 8), oint 13 (listTo s.pa 8), .v (lineV 14 s.line), oord 15 c o, .v (pt 5 (i * 5)), .v (pt 5 (i * 5 + 0))] [encL s.line, encS sts, encI (listTo u.sh 8), encI (listTo u.pa 8), encL u.line, encI (listTo s.sh 8), encI (listTo s.pa 8), encOrds o]) (dS3 s sts cp p i 0) ⟨[(.len 28 (ch 9), sv 41), kf .lss 3 (sv 41) (sv 41), kt .geq 3 (sv 51) (iv 0), kt .geq 3 (sv 1) (iv 0), kt .neq 3 (sv 51) (sv 1), (.ixa 22 (ch 2) (sv 40), ch 10), (.fa 42 (ch 10) 0, ch 11), kf .eql 3 (sv 65) (iv 4)], [⟨3, 11, 5, 1, sv 65⟩], []⟩ [] ⟨asLen u28 rfl (by kernel_rfl), qF ((o.length : Int) < (o.length : Int)), qT (u.owner ≥ 0), qT (s.owner ≥ 0), nT u.owner s.owner, asIxa u22 z42 rfl rfl (by omega) (by omega) rfl (by simp), asFs0 rfl rfl, eF (((stAt sts i).k) : Int) 4, trivial⟩ ⟨ld_one a3 rfl (st_c0 hi) (by kernel_rfl), trivial⟩ trivial trivial 15 [(0, 0), (1, 1), (2, 2), (3, 3), (5, 5), (6, 6), (11, 11), (12, 12), (13, 13), (14, 14)] (hF (by omega))
      · exact gS (ds s ([iv (i : Nat), iv (o.length : Nat)] ++ b8 p ++ [iv u.x, iv u.owner] ++ n8 u.ops ++ [iv u.hn, iv u.hk, .bool (u.wt != 0), iv u.op, .bool (s.wt != 0)]) [.v (lineV 1 s.line), olv 3 s.line, .v (stsV sts cp), oint 8 (listTo u.sh 8), oint 9 (listTo u.pa 8), .v (lineV 10 u.line), oint 12 (listTo s.sh 8), oint 13 (listTo s.pa 8), .v (lineV 14 s.line), oord 15 c o] [encL s.line, encS sts, encI (listTo u.sh 8), encI (listTo u.pa 8), encL u.line, encI (listTo s.sh 8), encI (listTo s.pa 8), encOrds o]) (dS3 s sts cp p i 0) ⟨[(.len 28 (ch 9), sv 41), kf .lss 3 (sv 41) (sv 41), kt .geq 3 (sv 51) (iv 0), kf .geq 3 (sv 1) (iv 0)], [], []⟩ [] ⟨asLen u28 rfl (by kernel_rfl), qF ((o.length : Int) < (o.length : Int)), qT (u.owner ≥ 0), qF (s.owner ≥ 0), trivial⟩ trivial trivial trivial 15 [(0, 0), (1, 1), (2, 2), (3, 3), (5, 5), (6, 6), (11, 11), (12, 12), (13, 13), (14, 14)] (hF (by omega))
    · exact gS (ds s ([iv (i : Nat), iv (o.length : Nat)] ++ b8 p ++ [iv u.x, iv u.owner] ++ n8 u.ops ++ [iv u.hn, iv u.hk, .bool (u.wt != 0), iv u.op, .bool (s.wt != 0)]) [.v (lineV 1 s.line), olv 3 s.line, .v (stsV sts cp), oint 8 (listTo u.sh 8), oint 9 (listTo u.pa 8), .v (lineV 10 u.line), oint 12 (listTo s.sh 8), oint 13 (listTo s.pa 8), .v (lineV 14 s.line), oord 15 c o] [encL s.line, encS sts, encI (listTo u.sh 8), encI (listTo u.pa 8), encL u.line, encI (listTo s.sh 8), encI (listTo s.pa 8), encOrds o]) (dS3 s sts cp p i 0) ⟨[(.len 28 (ch 9), sv 41), kf .lss 3 (sv 41) (sv 41), kf .geq 3 (sv 51) (iv 0)], [], []⟩ [] ⟨asLen u28 rfl (by kernel_rfl), qF ((o.length : Int) < (o.length : Int)), qF (u.owner ≥ 0), trivial⟩ trivial trivial trivial 15 [(0, 0), (1, 1), (2, 2), (3, 3), (5, 5), (6, 6), (11, 11), (12, 12), (13, 13), (14, 14)] (hF (by omega))
theorem s3_step (hn : n < 8) (hg : GS T sts (dS4 s sts cp p i n 0) (xS4 T false)) : GS T sts (dS3 s sts cp p i n) (xS3 T) := by
  · exact gS (ds s ([iv (i : Nat), iv (n : Nat)] ++ b8 p ++ [.bool (s.wt != 0)]) [.v (lineV 1 s.line), olv 3 s.line, .v (stsV sts cp), oint 12 (listTo s.sh 8), oint 13 (listTo s.pa 8), .v (lineV 14 s.line)] [encL s.line, encS sts, encI (listTo s.sh 8), encI (listTo s.pa 8)]) (dS4 s sts cp p i n 0) ⟨[kt .lss 3 (sv 41) (iv 8)], [], []⟩ [] ⟨qT ((n : Int) < 8), trivial⟩ trivial trivial trivial 13 [(0, 0), (1, 1), (2, 2), (3, 3), (5, 5), (6, 6), (11, 11), (12, 12), (13, 13), (14, 14)] hg
theorem s3_end (hi : i < 1000) (hg : GS T sts (dS1 s sts cp p (i + 1)) (xS1 T)) : GS T sts (dS3 s sts cp p i 8) (xS3 T) := by
  · exact gS (ds s ([iv (i : Nat), iv (8 : Nat)] ++ b8 p ++ [.bool (s.wt != 0), iv ((i + 1 : Nat) : Int)]) [.v (lineV 1 s.line), olv 3 s.line, .v (stsV sts cp), oint 12 (listTo s.sh 8), oint 13 (listTo s.pa 8), .v (lineV 14 s.line)] [encL s.line, encS sts, encI (listTo s.sh 8), encI (listTo s.pa 8)]) (dS1 s sts cp p (i + 1)) ⟨[kf .lss 3 (sv 41) (iv 8), (.bin .add 3 (sv 40) (iv 1), sv 51)], [], []⟩ [] ⟨qF (((8 : Nat) : Int) < 8), asP (u := iv ((i + 1 : Nat) : Int)) (Eq.trans (b := some (iv (IntKind.i64.wrap ((i : Int) + 1)))) (by kernel_rfl) (by rw [wrap_id (by omega) (by omega)]; rfl)) (by kernel_rfl), trivial⟩ trivial trivial trivial 10 [(0, 0), (1, 1), (2, 2), (3, 3), (5, 5), (6, 6)] hg
theorem s4_f (_hn : n < 8) (hk8 : k < 8) (hget : (listTo s.pa 8)[k]? = some y) (hT : y = (n : Int) → GS T sts (dS4 s sts cp p i n (k + 1)) (xS4 T true)) (hF : y ≠ (n : Int) → GS T sts (dS4 s sts cp p i n (k + 1)) (xS4 T false)) : GS T sts (dS4 s sts cp p i n k) (xS4 T false) := by
  have hk := (List.getElem?_eq_some_iff.1 hget).1
  · by_cases h0 : ((y) : Int) = (((n : Nat) : Int))
    · exact gS (ds s ([iv (i : Nat), iv (n : Nat)] ++ b8 p ++ [.bool (s.wt != 0), iv (k : Nat), iv ((listTo s.pa 8).length : Nat), iv y, iv ((k + 1 : Nat) : Int)]) [.v (lineV 1 s.line), olv 3 s.line, .v (stsV sts cp), oint 12 (listTo s.sh 8), oint 13 (listTo s.pa 8), .v (lineV 14 s.line), .v (pt 13 (k))] [encL s.line, encS sts, encI (listTo s.sh 8), encI (listTo s.pa 8)]) (dS4 s sts cp p i n (k + 1)) ⟨[(.len 29 (ch 4), sv 52), kt .lss 3 (sv 51) (sv 52), (.ixa 29 (ch 4) (sv 51), ch 6), kt .eql 3 (sv 53) (sv 41), (.bin .add 3 (sv 51) (iv 1), sv 54)], [⟨3, 6, 13, 3, sv 53⟩], []⟩ [] ⟨asLen u29 rfl (by kernel_rfl), qT ((k : Int) < ((listTo s.pa 8).length : Int)), asIxaM u29 z3 rfl rfl (by omega) (by omega) rfl (by simp), eT y (((n : Nat) : Int)), asP (u := iv ((k + 1 : Nat) : Int)) (Eq.trans (b := some (iv (IntKind.i64.wrap ((k : Int) + 1)))) (by kernel_rfl) (by rw [wrap_id (by omega) (by omega)]; rfl)) (by kernel_rfl), trivial⟩ ⟨ld_one a3 rfl (encI_at _ _ _ hget) (by kernel_rfl), trivial⟩ trivial trivial 10 [(0, 0), (1, 1), (2, 2), (3, 3), (5, 5), (6, 6), (11, 11), (12, 12), (13, 13), (14, 14)] (hT (by omega))
    · exact gS (ds s ([iv (i : Nat), iv (n : Nat)] ++ b8 p ++ [.bool (s.wt != 0), iv (k : Nat), iv ((listTo s.pa 8).length : Nat), iv y, iv ((k + 1 : Nat) : Int)]) [.v (lineV 1 s.line), olv 3 s.line, .v (stsV sts cp), oint 12 (listTo s.sh 8), oint 13 (listTo s.pa 8), .v (lineV 14 s.line), .v (pt 13 (k))] [encL s.line, encS sts, encI (listTo s.sh 8), encI (listTo s.pa 8)]) (dS4 s sts cp p i n (k + 1)) ⟨[(.len 29 (ch 4), sv 52), kt .lss 3 (sv 51) (sv 52), (.ixa 29 (ch 4) (sv 51), ch 6), kf .eql 3 (sv 53) (sv 41), (.bin .add 3 (sv 51) (iv 1), sv 54)], [⟨3, 6, 13, 3, sv 53⟩], []⟩ [] ⟨asLen u29 rfl (by kernel_rfl), qT ((k : Int) < ((listTo s.pa 8).length : Int)), asIxaM u29 z3 rfl rfl (by omega) (by omega) rfl (by simp), eF y (((n : Nat) : Int)), asP (u := iv ((k + 1 : Nat) : Int)) (Eq.trans (b := some (iv (IntKind.i64.wrap ((k : Int) + 1)))) (by kernel_rfl) (by rw [wrap_id (by omega) (by omega)]; rfl)) (by kernel_rfl), trivial⟩ ⟨ld_one a3 rfl (encI_at _ _ _ hget) (by kernel_rfl), trivial⟩ trivial trivial 10 [(0, 0), (1, 1), (2, 2), (3, 3), (5, 5), (6, 6), (11, 11), (12, 12), (13, 13), (14, 14)] (hF (by omega))
theorem s4_t (hk8 : k < 8) (hk : k < (listTo s.pa 8).length) (hg : GS T sts (dS4 s sts cp p i n (k + 1)) (xS4 T true)) : GS T sts (dS4 s sts cp p i n k) (xS4 T true) := by
  · exact gS (ds s ([iv (i : Nat), iv (n : Nat)] ++ b8 p ++ [.bool (s.wt != 0), iv (k : Nat), iv ((listTo s.pa 8).length : Nat), iv ((k + 1 : Nat) : Int)]) [.v (lineV 1 s.line), olv 3 s.line, .v (stsV sts cp), oint 12 (listTo s.sh 8), oint 13 (listTo s.pa 8), .v (lineV 14 s.line)] [encL s.line, encS sts, encI (listTo s.sh 8), encI (listTo s.pa 8)]) (dS4 s sts cp p i n (k + 1)) ⟨[(.len 29 (ch 4), sv 52), kt .lss 3 (sv 51) (sv 52), (.bin .add 3 (sv 51) (iv 1), sv 53)], [], []⟩ [] ⟨asLen u29 rfl (by kernel_rfl), qT ((k : Int) < ((listTo s.pa 8).length : Int)), asP (u := iv ((k + 1 : Nat) : Int)) (Eq.trans (b := some (iv (IntKind.i64.wrap ((k : Int) + 1)))) (by kernel_rfl) (by rw [wrap_id (by omega) (by omega)]; rfl)) (by kernel_rfl), trivial⟩ trivial trivial trivial 10 [(0, 0), (1, 1), (2, 2), (3, 3), (5, 5), (6, 6), (11, 11), (12, 12), (13, 13), (14, 14)] hg
theorem s4_fe (hn : n < 8) (hp : ¬ p n = true) (hg : GS T sts (dS3 s sts cp p i (n + 1)) (xS3 T)) : GS T sts (dS4 s sts cp p i n (listTo s.pa 8).length) (xS4 T false) := by
  · by_cases h0 : (p) n = true
    · exact absurd (by assumption) hp
    · exact gS (ds s ([iv (i : Nat), iv (n : Nat)] ++ b8 p ++ [.bool (s.wt != 0), iv ((listTo s.pa 8).length : Nat), .bool ((p) n), iv ((n + 1 : Nat) : Int)]) [.v (lineV 1 s.line), olv 3 s.line, .v (stsV sts cp), oint 12 (listTo s.sh 8), oint 13 (listTo s.pa 8), .v (lineV 14 s.line), .v (pt 6 (n))] [encL s.line, encS sts, encI (listTo s.sh 8), encI (listTo s.pa 8)]) (dS3 s sts cp p i (n + 1)) ⟨[(.len 29 (ch 4), sv 51), kf .lss 3 (sv 51) (sv 51), kx 48 6 0 41 6, tf 52, (.bin .add 3 (sv 41) (iv 1), sv 53)], [], [([4, 1000000], { args := [ch 6], c := 15, hids := [], foots := [⟨6, 0, false, .row 48 (.lst [sv 42, sv 43, sv 44, sv 45, sv 46, sv 47, sv 48, sv 49]) false, .row 48 (.lst [sv 42, sv 43, sv 44, sv 45, sv 46, sv 47, sv 48, sv 49]) false⟩], news := [], res := sv 52 })]⟩ [] ⟨asLen u29 rfl (by kernel_rfl), qF (((listTo s.pa 8).length : Int) < ((listTo s.pa 8).length : Int)), iA u48 z4 rfl rfl, tB (Bool.eq_false_iff.2 h0), asP (u := iv ((n + 1 : Nat) : Int)) (Eq.trans (b := some (iv (IntKind.i64.wrap ((n : Int) + 1)))) (by kernel_rfl) (by rw [wrap_id (by omega) (by omega)]; rfl)) (by kernel_rfl), trivial⟩ trivial ⟨ld (ld_set 48 (q := n) (by omega) (p)), trivial⟩ trivial 13 [(0, 0), (1, 1), (2, 2), (3, 3), (5, 5), (6, 6), (11, 11), (12, 12), (13, 13), (14, 14)] hg
theorem s4_te (hn : n < 8) (hg : GS T sts (dS3 s sts cp p i (n + 1)) (xS3 T)) : GS T sts (dS4 s sts cp p i n (listTo s.pa 8).length) (xS4 T true) := by
  · by_cases h0 : (p) n = true
    · exact gS (ds s ([iv (i : Nat), iv (n : Nat)] ++ b8 p ++ [.bool (s.wt != 0), iv ((listTo s.pa 8).length : Nat), .bool ((p) n), iv ((n + 1 : Nat) : Int)]) [.v (lineV 1 s.line), olv 3 s.line, .v (stsV sts cp), oint 12 (listTo s.sh 8), oint 13 (listTo s.pa 8), .v (lineV 14 s.line), .v (pt 6 (n))] [encL s.line, encS sts, encI (listTo s.sh 8), encI (listTo s.pa 8)]) (dS3 s sts cp p i (n + 1)) ⟨[(.len 29 (ch 4), sv 51), kf .lss 3 (sv 51) (sv 51), kx 48 6 0 41 6, tt 52, (.bin .add 3 (sv 41) (iv 1), sv 53)], [], [([4, 1000000], { args := [ch 6], c := 15, hids := [], foots := [⟨6, 0, false, .row 48 (.lst [sv 42, sv 43, sv 44, sv 45, sv 46, sv 47, sv 48, sv 49]) false, .row 48 (.lst [sv 42, sv 43, sv 44, sv 45, sv 46, sv 47, sv 48, sv 49]) false⟩], news := [], res := sv 52 })]⟩ [] ⟨asLen u29 rfl (by kernel_rfl), qF (((listTo s.pa 8).length : Int) < ((listTo s.pa 8).length : Int)), iA u48 z4 rfl rfl, tB h0, asP (u := iv ((n + 1 : Nat) : Int)) (Eq.trans (b := some (iv (IntKind.i64.wrap ((n : Int) + 1)))) (by kernel_rfl) (by rw [wrap_id (by omega) (by omega)]; rfl)) (by kernel_rfl), trivial⟩ trivial ⟨ld (ld_set 48 (q := n) (by omega) (p)), trivial⟩ trivial 13 [(0, 0), (1, 1), (2, 2), (3, 3), (5, 5), (6, 6), (11, 11), (12, 12), (13, 13), (14, 14)] hg
    · exact gS (ds s ([iv (i : Nat), iv (n : Nat)] ++ b8 p ++ [.bool (s.wt != 0), iv ((listTo s.pa 8).length : Nat), .bool ((p) n), iv ((n + 1 : Nat) : Int)]) [.v (lineV 1 s.line), olv 3 s.line, .v (stsV sts cp), oint 12 (listTo s.sh 8), oint 13 (listTo s.pa 8), .v (lineV 14 s.line), .v (pt 6 (n))] [encL s.line, encS sts, encI (listTo s.sh 8), encI (listTo s.pa 8)]) (dS3 s sts cp p i (n + 1)) ⟨[(.len 29 (ch 4), sv 51), kf .lss 3 (sv 51) (sv 51), kx 48 6 0 41 6, tf 52, (.bin .add 3 (sv 41) (iv 1), sv 53)], [], [([4, 1000000], { args := [ch 6], c := 15, hids := [], foots := [⟨6, 0, false, .row 48 (.lst [sv 42, sv 43, sv 44, sv 45, sv 46, sv 47, sv 48, sv 49]) false, .row 48 (.lst [sv 42, sv 43, sv 44, sv 45, sv 46, sv 47, sv 48, sv 49]) false⟩], news := [], res := sv 52 })]⟩ [] ⟨asLen u29 rfl (by kernel_rfl), qF (((listTo s.pa 8).length : Int) < ((listTo s.pa 8).length : Int)), iA u48 z4 rfl rfl, tB (Bool.eq_false_iff.2 h0), asP (u := iv ((n + 1 : Nat) : Int)) (Eq.trans (b := some (iv (IntKind.i64.wrap ((n : Int) + 1)))) (by kernel_rfl) (by rw [wrap_id (by omega) (by omega)]; rfl)) (by kernel_rfl), trivial⟩ trivial ⟨ld (ld_set 48 (q := n) (by omega) (p)), trivial⟩ trivial 13 [(0, 0), (1, 1), (2, 2), (3, 3), (5, 5), (6, 6), (11, 11), (12, 12), (13, 13), (14, 14)] hg
def markD (p : Nat → Bool) : List Ord → Nat → Bool
  | [] => p
  | x :: l => markD (if x.kind = 6 then upd p x.to.toNat false else p) l
theorem s2_all (ho : o.length < 100000) (hto : ∀ x ∈ o, x.kind = 6 → 0 ≤ x.to ∧ x.to < 8) : ∀ (j k : Nat) (p : Nat → Bool), k + j = o.length → GS T sts (dS2 u s sts cp (markD p (o.drop k)) o c i o.length) (xS2 T) → GS T sts (dS2 u s sts cp p o c i k) (xS2 T)
  | 0, k, p, h, hg => by
    have : k = o.length := by omega
    subst this
    rw [List.drop_length] at hg
    exact hg
  | j + 1, k, p, h, hg => by
    have hk : k < o.length := by omega
    rw [List.drop_eq_getElem_cons hk] at hg
    simp only [markD] at hg
    refine s2_ord ho (x := o[k]) (by simp [hk]) (hto _ (List.getElem_mem hk)) (fun h6 => ?_) (fun h6 => ?_)
    · rw [if_pos h6] at hg; exact s2_all ho hto j (k + 1) _ (by omega) hg
    · rw [if_neg h6] at hg; exact s2_all ho hto j (k + 1) _ (by omega) hg
theorem s4_ts (hn : n < 8) (hg : GS T sts (dS3 s sts cp p i (n + 1)) (xS3 T)) : ∀ (j k : Nat), k + j = (listTo s.pa 8).length → GS T sts (dS4 s sts cp p i n k) (xS4 T true)
  | 0, k, h => by
    have : k = (listTo s.pa 8).length := by omega
    subst this; exact s4_te hn hg
  | j + 1, k, h => s4_t (by have := listTo_len s.pa 8; omega) (by omega) (s4_ts hn hg j (k + 1) (by omega))
theorem s4_fs (hn : n < 8) (hg : GS T sts (dS3 s sts cp p i (n + 1)) (xS3 T)) : ∀ (j k : Nat), k + j = (listTo s.pa 8).length → (p n = true → (n : Int) ∈ (listTo s.pa 8).drop k) → GS T sts (dS4 s sts cp p i n k) (xS4 T false)
  | 0, k, h, hp => by
    have : k = (listTo s.pa 8).length := by omega
    subst this
    rw [List.drop_length] at hp
    exact s4_fe hn (fun h1 => by cases hp h1) hg
  | j + 1, k, h, hp => by
    have hk : k < (listTo s.pa 8).length := by omega
    rw [List.drop_eq_getElem_cons hk] at hp
    refine s4_f hn (by have := listTo_len s.pa 8; omega) (y := (listTo s.pa 8)[k]) (by simp [hk]) (fun _ => s4_ts hn hg j (k + 1) (by omega)) fun hne => s4_fs hn hg j (k + 1) (by omega) fun h1 => ?_
    exact (List.mem_cons.1 (hp h1)).resolve_left fun e => hne e.symm
theorem s3_all (hi : i < 1000) (hp : ∀ n, n < 8 → p n = true → (n : Int) ∈ listTo s.pa 8) (hg : GS T sts (dS1 s sts cp p (i + 1)) (xS1 T)) : ∀ (j n : Nat), n + j = 8 → GS T sts (dS3 s sts cp p i n) (xS3 T)
  | 0, n, h => by
    have : n = 8 := by omega
    subst this; exact s3_end hi hg
  | j + 1, n, h => s3_step (by omega) (s4_fs (by omega) (s3_all hi hp hg j (n + 1) (by omega)) _ 0 (Nat.zero_add _) (by rw [List.drop_zero]; exact hp n (by omega)))
def pastM (p : Nat → Bool) (u s : St) (k : Int) (o : List Ord) : Nat → Bool := if u.owner ≥ 0 ∧ s.owner ≥ 0 ∧ u.owner ≠ s.owner ∧ k = 4 ∧ u.x ≠ s.x then upd (markD p o) u.owner.toNat true else markD p o
theorem lt_mem {f : Nat → Bool} {n : Nat} : ∀ (k : Nat), n < k → f n = true → (n : Int) ∈ listTo f k
  | 0, h, _ => by omega
  | k + 1, h, hf => by
    simp only [listTo]
    by_cases e : n = k
    · subst e; rw [if_pos hf]; exact List.mem_append_right _ List.mem_cons_self
    · have := lt_mem k (by omega) hf
      split
      · exact List.mem_append_left _ this
      · exact this
theorem pasts_all {J : St → (Nat → Bool) → Prop} (hJ : ∀ (s : St) (p : Nat → Bool) (k n m op psn : Int), J s p → s.op + s.line.length ≤ 900 → J (doM s k n m op psn).1 (pastM p s (doM s k n m op psn).1 k (doM s k n m op psn).2) ∧ ∀ x ∈ (doM s k n m op psn).2, x.kind = 6 → 0 ≤ x.to ∧ x.to < 8) (hP : ∀ s p, J s p → P2 s ∧ ∀ n, n < 8 → p n = true → s.pa n = true) (hs : sts.length ≤ 200) : ∀ (j i : Nat) (s : St) (p : Nat → Bool), i + j = sts.length → J s p → s.op + s.line.length ≤ i → GS T sts (dS1 s sts cp p i) (xS1 T)
  | 0, i, s, p, h, _, _ => by
    have : i = sts.length := by omega
    subst this; exact pasts_end
  | j + 1, i, s, p, h, hp, hb => by
    have hi : i < sts.length := by omega
    have hP1 := (hP s p hp).1
    obtain ⟨hd, hp', hr⟩ := do_ctr hP1 (by omega) (stAt sts i).k (stAt sts i).n (stAt sts i).m (stAt sts i).op (stAt sts i).psn
    obtain ⟨hj, hto⟩ := hJ s p (stAt sts i).k (stAt sts i).n (stAt sts i).m (stAt sts i).op (stAt sts i).psn hp (by omega)
    obtain ⟨c1, c2, _, _, hD⟩ := hd.get
    have h1 := hr.tot
    have h2 := hr.len
    have h3 := hP1.post.inv.op
    have h4 := hp'.post.inv.op
    have h5 := hP1.post.inv.owner
    have hin := (hP _ _ hj).2
    have g3 := s3_all (cp := cp) (T := T) (i := i) (by omega) (fun n hn hh => lt_mem 8 hn (hin n hn hh)) (pasts_all hJ hP hs j (i + 1) _ _ (by omega) hj (by omega)) 8 0 rfl
    refine pasts_step hi (by omega) (by omega) hD (s2_all (by omega) hto _ 0 p (Nat.zero_add _) ?_)
    rw [List.drop_zero]
    refine s2_end hi h5.2 (fun a1 a2 a3 a4 a5 => ?_) (fun a1 => ?_)
    · unfold pastM at g3; rw [if_pos ⟨a1, a2, a3, a4, a5⟩] at g3; exact g3
    · unfold pastM at g3; rw [if_neg a1] at g3; exact g3
theorem pasts_ctr {J : St → (Nat → Bool) → Prop} (hJ : ∀ (s : St) (p : Nat → Bool) (k n m op psn : Int), J s p → s.op + s.line.length ≤ 900 → J (doM s k n m op psn).1 (pastM p s (doM s k n m op psn).1 k (doM s k n m op psn).2) ∧ ∀ x ∈ (doM s k n m op psn).2, x.kind = 6 → 0 ≤ x.to ∧ x.to < 8) (hP : ∀ s p, J s p → P2 s ∧ ∀ n, n < 8 → p n = true → s.pa n = true) (h0 : J newS fun _ => false) (T : TypeId) (sts : List Stp) (cp : Nat) : Ctr Try.prog 4 [.slice (some ⟨5, 0, none⟩) sts.length cp] [(5, .row T (.lst (encS sts)) true)] (.bool true) [] := by
  have hgo : sts.length ≤ 200 → GS T sts (dS1 newS sts cp (fun _ => false) 0) (xS1 T) := fun hs => pasts_all hJ hP hs sts.length 0 newS (fun _ => false) (Nat.zero_add _) h0 (by decide)
  · by_cases h0 : (((sts.length : Nat)) : Int) > (200)
    · exact Ctr.of_goodS (d := (ds newS [iv (sts.length : Nat)] [.v (lineV 1 []), olv 3 [], .v (stsV sts cp)] [encL [], encS sts])) [] (c0 := 6) (A0 := hP0 T) (args0 := [ch 2]) (by kernel_rfl) (by kernel_rfl) (by kernel_rfl) (@goodS_fin (ds newS [iv (sts.length : Nat)] [.v (lineV 1 []), olv 3 [], .v (stsV sts cp)] [encL [], encS sts]) Try.prog mixed ⟨[(.len 22 (ch 2), sv 40), kt .gtr 3 (sv 40) (iv 200)], [], []⟩ [(12, [eKn 6])] ⟨asLen u22 rfl (by kernel_rfl), qT ((((sts.length : Nat)) : Int) > 200), trivial⟩ trivial trivial ⟨oe known_ctr, trivial⟩ 100 7 4 _ _ _ _ _ [] [] (by kernel_rfl) (by kernel_rfl))
    · refine Ctr.of_goodS (d := (ds newS [iv (sts.length : Nat)] [.v (lineV 1 []), olv 3 [], .v (stsV sts cp)] [encL [], encS sts])) [] (c0 := 6) (A0 := hP0 T) (args0 := [ch 2]) (by kernel_rfl) (by kernel_rfl) (by kernel_rfl) ?_
      exact @goodS_seg (ds newS [iv (sts.length : Nat)] [.v (lineV 1 []), olv 3 [], .v (stsV sts cp)] [encL [], encS sts]) (dS1 newS sts cp (fun _ => false) 0) Try.prog mixed ⟨[(.len 22 (ch 2), sv 40), kf .gtr 3 (sv 40) (iv 200)], [], []⟩ [(13, [eNewP 6]), (14, [eNewR 8])] ⟨asLen u22 rfl (by kernel_rfl), qF ((((sts.length : Nat)) : Int) > 200), trivial⟩ trivial trivial ⟨oe new_ctr, oe newR_ctr, trivial⟩ 100 17 4 _ _ _ _ _ [(6, 0), (7, 1), (8, 2), (9, 3), (5, 5), (10, 6)] [] _ _ _ _ _ _ (by kernel_rfl) (by kernel_rfl) (by kernel_rfl) (hgo (by omega))
end
theorem pasts_nil : Ctr Try.prog 4 [.slice none 0 0] [] (.bool true) [] :=
  Ctr.path mixed (dr newS [] [] []) ⟨[], [], []⟩ [(12, [eKn 4])] trivial trivial trivial ⟨oe known_ctr, trivial⟩
    (N := 400) (c0 := 0) (A0 := []) (args0 := [.slice none 0 0]) (τ := []) (ros := []) (by kernel_rfl) (by kernel_rfl) (by kernel_rfl)
theorem pasts_zero : Ctr Try.prog 4 [.slice (some ⟨5, 0, none⟩) 0 0] [(5, .dead)] (.bool true) [(5, .dead)] :=
  Ctr.path mixed (dr newS [] [] []) ⟨[], [], []⟩ [(12, [eKn 10])] trivial trivial trivial ⟨oe known_ctr, trivial⟩
    (N := 400) (c0 := 6) (A0 := [(5, .dead)]) (args0 := [.slice (some ⟨5, 0, none⟩) 0 0]) (τ := [(5, 5)]) (ros := []) (by kernel_rfl) (by kernel_rfl) (by kernel_rfl)
end Go.Proofs.Ytjpgnjaobfbojaa

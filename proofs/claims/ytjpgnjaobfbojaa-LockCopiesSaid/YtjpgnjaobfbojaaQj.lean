import Derived.Test.YtjpgnjaobfbojaaQi
namespace Go.Proofs.Ytjpgnjaobfbojaa
open Go.Sx
set_option maxRecDepth 20000
theorem encOrds_app : ∀ l m : List Ord, encOrds (l ++ m) = encOrds l ++ encOrds m
  | [], _ => rfl
  | x :: l, m => by simp [encOrds, encOrds_app l m]
theorem app_ords_inf (bl : List Ord) (x : Ord) (l : List Ord) (cp : Nat) (hb : bl.length < 9) (h : (x :: l).length < 1000000) : AppC Try.prog [28, 28] [.slice (some ⟨0, 0, none⟩) bl.length INF, .slice (some ⟨1, 0, none⟩) (x :: l).length cp] [(0, .row 45 (.lst (encOrds bl)) false), (1, .row 45 (.lst (encOrds (x :: l))) true)] (.slice (some ⟨2, 0, none⟩) (bl ++ x :: l).length INF) [(0, .dead), (2, .row 45 (.lst (encOrds (bl ++ x :: l))) false)] := by
  have h := AppC.inf (P := Try.prog) elemO (bl := encOrds bl) (l := encOrds (x :: l)) (n := bl.length) (m := (x :: l).length) (off := 0) (cp := cp) (T := 45) (encOrds_len bl) (encOrds_plain bl) (by simp) (by rw [encOrds_len]; omega) (encOrds_plain _) (by omega) (by unfold HALF; omega)
  have e : encOrds bl ++ ((encOrds (x :: l)).drop 0).take ((x :: l).length * 6) = encOrds (bl ++ x :: l) := by rw [List.drop_zero, List.take_of_length_le (by rw [encOrds_len]; omega), encOrds_app]
  have e2 : bl.length + (x :: l).length = (bl ++ x :: l).length := by simp only [List.length_append]
  rw [e, e2] at h
  exact h
def discs (psn : Int) (l : List Int) : List Ord := l.map fun p => ⟨6, p, 0, 0, 0, psn⟩
def wroteS (s : St) (n : Int) : St := { s with pa := fun _ => false, owner := if s.x = n then s.owner else -1 }
def wroteT (s : St) (n op : Int) : St := if s.owner = n then (if s.ops n.toNat = op then wroteS s n else s) else s
theorem wrote_out {s : St} {n op psn : Int} (ho : ¬ ((0 ≤ n ∧ n < 8) ∧ 0 ≤ psn ∧ psn ≤ 2147483647)) : MC 32 [.int .i64 n, .int .i64 op, .int .i64 psn] s s [] := by
  refine MC.mk (cap := 0) ?_
  · by_cases h0 : ((n) : Int) ≥ (0)
    · by_cases h1 : ((n) : Int) < (8)
      · by_cases h2 : ((psn) : Int) < (0)
        · skip
          exact pth (dg s [iv n, iv op, iv psn] [(lineV 1 s.line)] [encL s.line]) ⟨[kt .neq 31 (ch 0) (.slice none 0 0), kt .geq 3 (sv 40) (iv 0), kt .lss 3 (sv 40) (iv 8), kt .lss 2 (sv 42) (iv 0)], [], []⟩ [] ⟨asNeS u31 rfl, qT (n ≥ 0), qT (n < 8), qT (psn < 0), trivial⟩ trivial trivial trivial 2 (lockL []) (lockP ++ [sv 40, sv 41, sv 42]) [(0, 0), (1, 3)]
        · by_cases h3 : ((psn) : Int) > (2147483647)
          · skip
            exact pth (dg s [iv n, iv op, iv psn] [(lineV 1 s.line)] [encL s.line]) ⟨[kt .neq 31 (ch 0) (.slice none 0 0), kt .geq 3 (sv 40) (iv 0), kt .lss 3 (sv 40) (iv 8), kf .lss 2 (sv 42) (iv 0), kt .gtr 2 (sv 42) (iv 2147483647)], [], []⟩ [] ⟨asNeS u31 rfl, qT (n ≥ 0), qT (n < 8), qF (psn < 0), qT (psn > 2147483647), trivial⟩ trivial trivial trivial 2 (lockL []) (lockP ++ [sv 40, sv 41, sv 42]) [(0, 0), (1, 3)]
          · exact ab ho
      · skip
        exact pth (dg s [iv n, iv op, iv psn] [(lineV 1 s.line)] [encL s.line]) ⟨[kt .neq 31 (ch 0) (.slice none 0 0), kt .geq 3 (sv 40) (iv 0), kf .lss 3 (sv 40) (iv 8)], [], []⟩ [] ⟨asNeS u31 rfl, qT (n ≥ 0), qF (n < 8), trivial⟩ trivial trivial trivial 2 (lockL []) (lockP ++ [sv 40, sv 41, sv 42]) [(0, 0), (1, 3)]
    · skip
      exact pth (dg s [iv n, iv op, iv psn] [(lineV 1 s.line)] [encL s.line]) ⟨[kt .neq 31 (ch 0) (.slice none 0 0), kf .geq 3 (sv 40) (iv 0)], [], []⟩ [] ⟨asNeS u31 rfl, qF (n ≥ 0), trivial⟩ trivial trivial trivial 2 (lockL []) (lockP ++ [sv 40, sv 41, sv 42]) [(0, 0), (1, 3)]
theorem wrote_t0 {s : St} {n op psn : Int} (hl : listTo s.pa 8 = []) (ho : (0 ≤ n ∧ n < 8) ∧ (0 ≤ psn ∧ psn ≤ 2147483647) ∧ ¬ (s.owner = n ∧ s.ops n.toNat = op ∧ s.wt = 3)) : MC 32 [.int .i64 n, .int .i64 op, .int .i64 psn] s (wroteT s n op) (discs psn []) := by
  refine MC.mk (cap := 0) ?_
  · by_cases h0 : ((n) : Int) ≥ (0)
    · by_cases h1 : ((n) : Int) < (8)
      · by_cases h2 : ((psn) : Int) < (0)
        · exact ab ho
        · by_cases h3 : ((psn) : Int) > (2147483647)
          · exact ab ho
          · by_cases h4 : ((s.owner) : Int) = (n)
            · by_cases h5 : ((s.ops n.toNat) : Int) = (op)
              · by_cases h6 : ((s.x) : Int) = (n)
                · by_cases h7 : ((s.wt) : Int) = (3)
                  · exact ab ho
                  · simp only [wroteT, wroteS, if_pos h4, if_pos h5, if_pos h6]
                    exact pth (dg s [iv n, iv op, iv psn, iv (s.ops n.toNat)] [(lineV 1 s.line), pt 0 (18 + n.toNat)] [encL s.line]) ⟨[kt .neq 31 (ch 0) (.slice none 0 0), kt .geq 3 (sv 40) (iv 0), kt .lss 3 (sv 40) (iv 8), kf .lss 2 (sv 42) (iv 0), kf .gtr 2 (sv 42) (iv 2147483647), kf .neq 3 (sv 1) (sv 40), kx 30 0 18 40 1, kf .neq 2 (sv 43) (sv 41), kf .neq 3 (sv 0) (sv 40), kf .eql 71 (sv 29) (iv 3)], [], [([2, 1000000], (eLd 1 2 [] 43))]⟩ [(52, [{ args := [.agg (v8 10)], c := 2, foots := [], news := [], res := .slice none 0 0 }])] ⟨asNeS u31 rfl, qT (n ≥ 0), qT (n < 8), qF (psn < 0), qF (psn > 2147483647), nF s.owner n, iA u30 z2 rfl rfl, nF ((s.ops n.toNat) : Int) op, nF s.x n, eF s.wt 3, trivial⟩ trivial ⟨ld (ld_ops s (lineV 1 s.line) 73 (q := n.toNat) (by omega)), trivial⟩ ⟨oe (toL52 (s.pa) (hl)), trivial⟩ 2 (lockL []) (lockP ++ [sv 40, sv 41, sv 42]) [(0, 0), (1, 3)]
                · by_cases h8 : ((s.wt) : Int) = (3)
                  · exact ab ho
                  · simp only [wroteT, wroteS, if_pos h4, if_pos h5, if_neg h6]
                    exact pth (dg s [iv n, iv op, iv psn, iv (s.ops n.toNat)] [(lineV 1 s.line), pt 0 (18 + n.toNat)] [encL s.line]) ⟨[kt .neq 31 (ch 0) (.slice none 0 0), kt .geq 3 (sv 40) (iv 0), kt .lss 3 (sv 40) (iv 8), kf .lss 2 (sv 42) (iv 0), kf .gtr 2 (sv 42) (iv 2147483647), kf .neq 3 (sv 1) (sv 40), kx 30 0 18 40 1, kf .neq 2 (sv 43) (sv 41), kt .neq 3 (sv 0) (sv 40), kf .eql 71 (sv 29) (iv 3)], [], [([2, 1000000], (eLd 1 2 [] 43))]⟩ [(52, [{ args := [.agg (v8 10)], c := 2, foots := [], news := [], res := .slice none 0 0 }])] ⟨asNeS u31 rfl, qT (n ≥ 0), qT (n < 8), qF (psn < 0), qF (psn > 2147483647), nF s.owner n, iA u30 z2 rfl rfl, nF ((s.ops n.toNat) : Int) op, nT s.x n, eF s.wt 3, trivial⟩ trivial ⟨ld (ld_ops s (lineV 1 s.line) 73 (q := n.toNat) (by omega)), trivial⟩ ⟨oe (toL52 (s.pa) (hl)), trivial⟩ 2 (lockL []) (lockP ++ [sv 40, sv 41, sv 42]) [(0, 0), (1, 3)]
              · simp only [wroteT, wroteS, if_pos h4, if_neg h5]
                exact pth (dg s [iv n, iv op, iv psn, iv (s.ops n.toNat)] [(lineV 1 s.line), pt 0 (18 + n.toNat)] [encL s.line]) ⟨[kt .neq 31 (ch 0) (.slice none 0 0), kt .geq 3 (sv 40) (iv 0), kt .lss 3 (sv 40) (iv 8), kf .lss 2 (sv 42) (iv 0), kf .gtr 2 (sv 42) (iv 2147483647), kf .neq 3 (sv 1) (sv 40), kx 30 0 18 40 1, kt .neq 2 (sv 43) (sv 41)], [], [([2, 1000000], (eLd 1 2 [] 43))]⟩ [(52, [{ args := [.agg (v8 10)], c := 2, foots := [], news := [], res := .slice none 0 0 }])] ⟨asNeS u31 rfl, qT (n ≥ 0), qT (n < 8), qF (psn < 0), qF (psn > 2147483647), nF s.owner n, iA u30 z2 rfl rfl, nT ((s.ops n.toNat) : Int) op, trivial⟩ trivial ⟨ld (ld_ops s (lineV 1 s.line) 73 (q := n.toNat) (by omega)), trivial⟩ ⟨oe (toL52 (s.pa) (hl)), trivial⟩ 2 (lockL []) (lockP ++ [sv 40, sv 41, sv 42]) [(0, 0), (1, 3)]
            · simp only [wroteT, wroteS, if_neg h4]
              exact pth (dg s [iv n, iv op, iv psn] [(lineV 1 s.line)] [encL s.line]) ⟨[kt .neq 31 (ch 0) (.slice none 0 0), kt .geq 3 (sv 40) (iv 0), kt .lss 3 (sv 40) (iv 8), kf .lss 2 (sv 42) (iv 0), kf .gtr 2 (sv 42) (iv 2147483647), kt .neq 3 (sv 1) (sv 40)], [], []⟩ [(52, [{ args := [.agg (v8 10)], c := 2, foots := [], news := [], res := .slice none 0 0 }])] ⟨asNeS u31 rfl, qT (n ≥ 0), qT (n < 8), qF (psn < 0), qF (psn > 2147483647), nT s.owner n, trivial⟩ trivial trivial ⟨oe (toL52 (s.pa) (hl)), trivial⟩ 2 (lockL []) (lockP ++ [sv 40, sv 41, sv 42]) [(0, 0), (1, 3)]
      · exact ab ho
    · exact ab ho
theorem wrote_w0 {s t : St} {n op psn : Int} {o : List Ord} (hlen : o.length < 1000000) (hl : listTo s.pa 8 = []) (ho : (0 ≤ n ∧ n < 8) ∧ (0 ≤ psn ∧ psn ≤ 2147483647) ∧ (s.owner = n ∧ s.ops n.toNat = op ∧ s.wt = 3)) (h : MC 73 [] (wroteS s n) t o) : MC 32 [.int .i64 n, .int .i64 op, .int .i64 psn] s t (discs psn [] ++ o) := by
  obtain ⟨cap, hcap, hN⟩ := h
  refine MC.mk (cap := INF) ?_
  cases o with
  | nil =>
    · by_cases h0 : ((n) : Int) ≥ (0)
      · by_cases h1 : ((n) : Int) < (8)
        · by_cases h2 : ((psn) : Int) < (0)
          · exact ab ho
          · by_cases h3 : ((psn) : Int) > (2147483647)
            · exact ab ho
            · by_cases h4 : ((s.owner) : Int) = (n)
              · by_cases h5 : ((s.ops n.toNat) : Int) = (op)
                · by_cases h6 : ((s.x) : Int) = (n)
                  · by_cases h7 : ((s.wt) : Int) = (3)
                    · simp only [wroteS, if_pos h6] at hN
                      exact pth (dg s ([iv n, iv op, iv psn, iv (s.ops n.toNat)] ++ tv t) [(lineV 1 s.line), pt 0 (18 + n.toNat), lineV 2 t.line] [encL s.line, encL t.line]) ⟨[kt .neq 31 (ch 0) (.slice none 0 0), kt .geq 3 (sv 40) (iv 0), kt .lss 3 (sv 40) (iv 8), kf .lss 2 (sv 42) (iv 0), kf .gtr 2 (sv 42) (iv 2147483647), kf .neq 3 (sv 1) (sv 40), kx 30 0 18 40 1, kf .neq 2 (sv 43) (sv 41), kf .neq 3 (sv 0) (sv 40), kt .eql 71 (sv 29) (iv 3)], [], [([2, 1000000], (eLd 1 2 [] 43))]⟩ [(52, [{ args := [.agg (v8 10)], c := 2, foots := [], news := [], res := .slice none 0 0 }]), (73, [(eC0 [pt 0 0] 2 [(10, .bool false), (11, .bool false), (12, .bool false), (13, .bool false), (14, .bool false), (15, .bool false), (16, .bool false), (17, .bool false)] 44 2 1 0 1)])] ⟨asNeS u31 rfl, qT (n ≥ 0), qT (n < 8), qF (psn < 0), qF (psn > 2147483647), nF s.owner n, iA u30 z2 rfl rfl, nF ((s.ops n.toNat) : Int) op, nF s.x n, eT s.wt 3, trivial⟩ trivial ⟨ld (ld_ops s (lineV 1 s.line) 73 (q := n.toNat) (by omega)), trivial⟩ ⟨oe (toL52 (s.pa) (hl)), oe hN, trivial⟩ 2 (lockL []) (lockP ++ [sv 40, sv 41, sv 42]) [(0, 0), (2, 3)]
                    · exact ab ho
                  · by_cases h8 : ((s.wt) : Int) = (3)
                    · simp only [wroteS, if_neg h6] at hN
                      exact pth (dg s ([iv n, iv op, iv psn, iv (s.ops n.toNat)] ++ tv t) [(lineV 1 s.line), pt 0 (18 + n.toNat), lineV 2 t.line] [encL s.line, encL t.line]) ⟨[kt .neq 31 (ch 0) (.slice none 0 0), kt .geq 3 (sv 40) (iv 0), kt .lss 3 (sv 40) (iv 8), kf .lss 2 (sv 42) (iv 0), kf .gtr 2 (sv 42) (iv 2147483647), kf .neq 3 (sv 1) (sv 40), kx 30 0 18 40 1, kf .neq 2 (sv 43) (sv 41), kt .neq 3 (sv 0) (sv 40), kt .eql 71 (sv 29) (iv 3)], [], [([2, 1000000], (eLd 1 2 [] 43))]⟩ [(52, [{ args := [.agg (v8 10)], c := 2, foots := [], news := [], res := .slice none 0 0 }]), (73, [(eC0 [pt 0 0] 2 [(1, iv (-1)), (10, .bool false), (11, .bool false), (12, .bool false), (13, .bool false), (14, .bool false), (15, .bool false), (16, .bool false), (17, .bool false)] 44 2 1 0 1)])] ⟨asNeS u31 rfl, qT (n ≥ 0), qT (n < 8), qF (psn < 0), qF (psn > 2147483647), nF s.owner n, iA u30 z2 rfl rfl, nF ((s.ops n.toNat) : Int) op, nT s.x n, eT s.wt 3, trivial⟩ trivial ⟨ld (ld_ops s (lineV 1 s.line) 73 (q := n.toNat) (by omega)), trivial⟩ ⟨oe (toL52 (s.pa) (hl)), oe hN, trivial⟩ 2 (lockL []) (lockP ++ [sv 40, sv 41, sv 42]) [(0, 0), (2, 3)]
                    · exact ab ho
                · exact ab ho
              · exact ab ho
        · exact ab ho
      · exact ab ho
  | cons x l =>
    · by_cases h0 : ((n) : Int) ≥ (0)
      · by_cases h1 : ((n) : Int) < (8)
        · by_cases h2 : ((psn) : Int) < (0)
          · exact ab ho
          · by_cases h3 : ((psn) : Int) > (2147483647)
            · exact ab ho
            · by_cases h4 : ((s.owner) : Int) = (n)
              · by_cases h5 : ((s.ops n.toNat) : Int) = (op)
                · by_cases h6 : ((s.x) : Int) = (n)
                  · by_cases h7 : ((s.wt) : Int) = (3)
                    · simp only [wroteS, if_pos h6] at hN
                      exact pth (dg s ([iv n, iv op, iv psn, iv (s.ops n.toNat)] ++ tv t) [(lineV 1 s.line), pt 0 (18 + n.toNat), lineV 2 t.line, .slice (some ⟨3, 0, none⟩) (x :: l).length cap, .slice (some ⟨4, 0, none⟩) (x :: l).length INF] [encL s.line, encL t.line, encOrds (x :: l), encOrds (x :: l)]) ⟨[kt .neq 31 (ch 0) (.slice none 0 0), kt .geq 3 (sv 40) (iv 0), kt .lss 3 (sv 40) (iv 8), kf .lss 2 (sv 42) (iv 0), kf .gtr 2 (sv 42) (iv 2147483647), kf .neq 3 (sv 1) (sv 40), kx 30 0 18 40 1, kf .neq 2 (sv 43) (sv 41), kf .neq 3 (sv 0) (sv 40), kt .eql 71 (sv 29) (iv 3)], [], [([2, 1000000], (eLd 1 2 [] 43)), ([28, 28], { args := [.slice none 0 0, ch 3], c := 4, foots := [⟨3, 1, true, .orow 45 2 false, .dead⟩], news := [(2, .orow 45 3 false)], res := ch 4 })]⟩ [(52, [{ args := [.agg (v8 10)], c := 2, foots := [], news := [], res := .slice none 0 0 }]), (73, [(eC1 [pt 0 0] 2 [(10, .bool false), (11, .bool false), (12, .bool false), (13, .bool false), (14, .bool false), (15, .bool false), (16, .bool false), (17, .bool false)] 44 2 1 0 1 2 (ch 3))])] ⟨asNeS u31 rfl, qT (n ≥ 0), qT (n < 8), qF (psn < 0), qF (psn > 2147483647), nF s.owner n, iA u30 z2 rfl rfl, nF ((s.ops n.toNat) : Int) op, nF s.x n, eT s.wt 3, trivial⟩ trivial ⟨ld (ld_ops s (lineV 1 s.line) 73 (q := n.toNat) (by omega)), ap (app_ords_nil x l cap hlen), trivial⟩ ⟨oe (toL52 (s.pa) (hl)), oe hN, trivial⟩ 2 (lockL []) (lockP ++ [sv 40, sv 41, sv 42]) [(0, 0), (2, 3), (4, 2)]
                    · exact ab ho
                  · by_cases h8 : ((s.wt) : Int) = (3)
                    · simp only [wroteS, if_neg h6] at hN
                      exact pth (dg s ([iv n, iv op, iv psn, iv (s.ops n.toNat)] ++ tv t) [(lineV 1 s.line), pt 0 (18 + n.toNat), lineV 2 t.line, .slice (some ⟨3, 0, none⟩) (x :: l).length cap, .slice (some ⟨4, 0, none⟩) (x :: l).length INF] [encL s.line, encL t.line, encOrds (x :: l), encOrds (x :: l)]) ⟨[kt .neq 31 (ch 0) (.slice none 0 0), kt .geq 3 (sv 40) (iv 0), kt .lss 3 (sv 40) (iv 8), kf .lss 2 (sv 42) (iv 0), kf .gtr 2 (sv 42) (iv 2147483647), kf .neq 3 (sv 1) (sv 40), kx 30 0 18 40 1, kf .neq 2 (sv 43) (sv 41), kt .neq 3 (sv 0) (sv 40), kt .eql 71 (sv 29) (iv 3)], [], [([2, 1000000], (eLd 1 2 [] 43)), ([28, 28], { args := [.slice none 0 0, ch 3], c := 4, foots := [⟨3, 1, true, .orow 45 2 false, .dead⟩], news := [(2, .orow 45 3 false)], res := ch 4 })]⟩ [(52, [{ args := [.agg (v8 10)], c := 2, foots := [], news := [], res := .slice none 0 0 }]), (73, [(eC1 [pt 0 0] 2 [(1, iv (-1)), (10, .bool false), (11, .bool false), (12, .bool false), (13, .bool false), (14, .bool false), (15, .bool false), (16, .bool false), (17, .bool false)] 44 2 1 0 1 2 (ch 3))])] ⟨asNeS u31 rfl, qT (n ≥ 0), qT (n < 8), qF (psn < 0), qF (psn > 2147483647), nF s.owner n, iA u30 z2 rfl rfl, nF ((s.ops n.toNat) : Int) op, nT s.x n, eT s.wt 3, trivial⟩ trivial ⟨ld (ld_ops s (lineV 1 s.line) 73 (q := n.toNat) (by omega)), ap (app_ords_nil x l cap hlen), trivial⟩ ⟨oe (toL52 (s.pa) (hl)), oe hN, trivial⟩ 2 (lockL []) (lockP ++ [sv 40, sv 41, sv 42]) [(0, 0), (2, 3), (4, 2)]
                    · exact ab ho
                · exact ab ho
              · exact ab ho
        · exact ab ho
      · exact ab ho
theorem wrote_t1 {s : St} {n op psn : Int} {n0 : Int} (hl : listTo s.pa 8 = [n0]) (ho : (0 ≤ n ∧ n < 8) ∧ (0 ≤ psn ∧ psn ≤ 2147483647) ∧ ¬ (s.owner = n ∧ s.ops n.toNat = op ∧ s.wt = 3)) : MC 32 [.int .i64 n, .int .i64 op, .int .i64 psn] s (wroteT s n op) (discs psn [n0]) := by
  refine MC.mk (cap := INF) ?_
  · by_cases h0 : ((n) : Int) ≥ (0)
    · by_cases h1 : ((n) : Int) < (8)
      · by_cases h2 : ((psn) : Int) < (0)
        · exact ab ho
        · by_cases h3 : ((psn) : Int) > (2147483647)
          · exact ab ho
          · by_cases h4 : ((s.owner) : Int) = (n)
            · by_cases h5 : ((s.ops n.toNat) : Int) = (op)
              · by_cases h6 : ((s.x) : Int) = (n)
                · by_cases h7 : ((s.wt) : Int) = (3)
                  · exact ab ho
                  · simp only [wroteT, wroteS, if_pos h4, if_pos h5, if_pos h6]
                    exact pth (dg s [iv n, iv op, iv psn, iv n0, iv (s.ops n.toNat)] [(lineV 1 s.line), pt 0 (18 + n.toNat)] [encL s.line]) ⟨[kt .neq 31 (ch 0) (.slice none 0 0), kt .geq 3 (sv 40) (iv 0), kt .lss 3 (sv 40) (iv 8), kf .lss 2 (sv 42) (iv 0), kf .gtr 2 (sv 42) (iv 2147483647), kf .neq 3 (sv 1) (sv 40), kx 30 0 18 40 1, kf .neq 2 (sv 44) (sv 41), kf .neq 3 (sv 0) (sv 40), kf .eql 71 (sv 29) (iv 3)], [], [([2, 1000000], (eLd 1 5 [] 44))]⟩ [(52, [{ args := [.agg (v8 10)], c := 2, foots := [], news := [(2, .row 3 (.lst [sv 43]) false)], res := .slice (some ⟨2, 0, none⟩) 1 INF }])] ⟨asNeS u31 rfl, qT (n ≥ 0), qT (n < 8), qF (psn < 0), qF (psn > 2147483647), nF s.owner n, iA u30 z2 rfl rfl, nF ((s.ops n.toNat) : Int) op, nF s.x n, eF s.wt 3, trivial⟩ trivial ⟨ld (ld_ops s (lineV 1 s.line) 73 (q := n.toNat) (by omega)), trivial⟩ ⟨oe (toL52 (s.pa) (hl)), trivial⟩ 2 (lockL []) (lockP ++ [sv 40, sv 41, sv 42]) [(0, 0), (1, 3), (4, 2)]
                · by_cases h8 : ((s.wt) : Int) = (3)
                  · exact ab ho
                  · simp only [wroteT, wroteS, if_pos h4, if_pos h5, if_neg h6]
                    exact pth (dg s [iv n, iv op, iv psn, iv n0, iv (s.ops n.toNat)] [(lineV 1 s.line), pt 0 (18 + n.toNat)] [encL s.line]) ⟨[kt .neq 31 (ch 0) (.slice none 0 0), kt .geq 3 (sv 40) (iv 0), kt .lss 3 (sv 40) (iv 8), kf .lss 2 (sv 42) (iv 0), kf .gtr 2 (sv 42) (iv 2147483647), kf .neq 3 (sv 1) (sv 40), kx 30 0 18 40 1, kf .neq 2 (sv 44) (sv 41), kt .neq 3 (sv 0) (sv 40), kf .eql 71 (sv 29) (iv 3)], [], [([2, 1000000], (eLd 1 5 [] 44))]⟩ [(52, [{ args := [.agg (v8 10)], c := 2, foots := [], news := [(2, .row 3 (.lst [sv 43]) false)], res := .slice (some ⟨2, 0, none⟩) 1 INF }])] ⟨asNeS u31 rfl, qT (n ≥ 0), qT (n < 8), qF (psn < 0), qF (psn > 2147483647), nF s.owner n, iA u30 z2 rfl rfl, nF ((s.ops n.toNat) : Int) op, nT s.x n, eF s.wt 3, trivial⟩ trivial ⟨ld (ld_ops s (lineV 1 s.line) 73 (q := n.toNat) (by omega)), trivial⟩ ⟨oe (toL52 (s.pa) (hl)), trivial⟩ 2 (lockL []) (lockP ++ [sv 40, sv 41, sv 42]) [(0, 0), (1, 3), (4, 2)]
              · simp only [wroteT, wroteS, if_pos h4, if_neg h5]
                exact pth (dg s [iv n, iv op, iv psn, iv n0, iv (s.ops n.toNat)] [(lineV 1 s.line), pt 0 (18 + n.toNat)] [encL s.line]) ⟨[kt .neq 31 (ch 0) (.slice none 0 0), kt .geq 3 (sv 40) (iv 0), kt .lss 3 (sv 40) (iv 8), kf .lss 2 (sv 42) (iv 0), kf .gtr 2 (sv 42) (iv 2147483647), kf .neq 3 (sv 1) (sv 40), kx 30 0 18 40 1, kt .neq 2 (sv 44) (sv 41)], [], [([2, 1000000], (eLd 1 5 [] 44))]⟩ [(52, [{ args := [.agg (v8 10)], c := 2, foots := [], news := [(2, .row 3 (.lst [sv 43]) false)], res := .slice (some ⟨2, 0, none⟩) 1 INF }])] ⟨asNeS u31 rfl, qT (n ≥ 0), qT (n < 8), qF (psn < 0), qF (psn > 2147483647), nF s.owner n, iA u30 z2 rfl rfl, nT ((s.ops n.toNat) : Int) op, trivial⟩ trivial ⟨ld (ld_ops s (lineV 1 s.line) 73 (q := n.toNat) (by omega)), trivial⟩ ⟨oe (toL52 (s.pa) (hl)), trivial⟩ 2 (lockL []) (lockP ++ [sv 40, sv 41, sv 42]) [(0, 0), (1, 3), (4, 2)]
            · simp only [wroteT, wroteS, if_neg h4]
              exact pth (dg s [iv n, iv op, iv psn, iv n0] [(lineV 1 s.line)] [encL s.line]) ⟨[kt .neq 31 (ch 0) (.slice none 0 0), kt .geq 3 (sv 40) (iv 0), kt .lss 3 (sv 40) (iv 8), kf .lss 2 (sv 42) (iv 0), kf .gtr 2 (sv 42) (iv 2147483647), kt .neq 3 (sv 1) (sv 40)], [], []⟩ [(52, [{ args := [.agg (v8 10)], c := 2, foots := [], news := [(2, .row 3 (.lst [sv 43]) false)], res := .slice (some ⟨2, 0, none⟩) 1 INF }])] ⟨asNeS u31 rfl, qT (n ≥ 0), qT (n < 8), qF (psn < 0), qF (psn > 2147483647), nT s.owner n, trivial⟩ trivial trivial ⟨oe (toL52 (s.pa) (hl)), trivial⟩ 2 (lockL []) (lockP ++ [sv 40, sv 41, sv 42]) [(0, 0), (1, 3), (4, 2)]
      · exact ab ho
    · exact ab ho
theorem wrote_w1 {s t : St} {n op psn : Int} {n0 : Int} {o : List Ord} (hlen : o.length < 1000000) (hl : listTo s.pa 8 = [n0]) (ho : (0 ≤ n ∧ n < 8) ∧ (0 ≤ psn ∧ psn ≤ 2147483647) ∧ (s.owner = n ∧ s.ops n.toNat = op ∧ s.wt = 3)) (h : MC 73 [] (wroteS s n) t o) : MC 32 [.int .i64 n, .int .i64 op, .int .i64 psn] s t (discs psn [n0] ++ o) := by
  obtain ⟨cap, hcap, hN⟩ := h
  refine MC.mk (cap := INF) ?_
  cases o with
  | nil =>
    · by_cases h0 : ((n) : Int) ≥ (0)
      · by_cases h1 : ((n) : Int) < (8)
        · by_cases h2 : ((psn) : Int) < (0)
          · exact ab ho
          · by_cases h3 : ((psn) : Int) > (2147483647)
            · exact ab ho
            · by_cases h4 : ((s.owner) : Int) = (n)
              · by_cases h5 : ((s.ops n.toNat) : Int) = (op)
                · by_cases h6 : ((s.x) : Int) = (n)
                  · by_cases h7 : ((s.wt) : Int) = (3)
                    · simp only [wroteS, if_pos h6] at hN
                      exact pth (dg s ([iv n, iv op, iv psn, iv n0, iv (s.ops n.toNat)] ++ tv t) [(lineV 1 s.line), pt 0 (18 + n.toNat), lineV 5 t.line] [encL s.line, encL t.line]) ⟨[kt .neq 31 (ch 0) (.slice none 0 0), kt .geq 3 (sv 40) (iv 0), kt .lss 3 (sv 40) (iv 8), kf .lss 2 (sv 42) (iv 0), kf .gtr 2 (sv 42) (iv 2147483647), kf .neq 3 (sv 1) (sv 40), kx 30 0 18 40 1, kf .neq 2 (sv 44) (sv 41), kf .neq 3 (sv 0) (sv 40), kt .eql 71 (sv 29) (iv 3)], [], [([2, 1000000], (eLd 1 5 [] 44))]⟩ [(52, [{ args := [.agg (v8 10)], c := 2, foots := [], news := [(2, .row 3 (.lst [sv 43]) false)], res := .slice (some ⟨2, 0, none⟩) 1 INF }]), (73, [(eC0 [pt 0 0] 5 [(10, .bool false), (11, .bool false), (12, .bool false), (13, .bool false), (14, .bool false), (15, .bool false), (16, .bool false), (17, .bool false)] 45 2 1 0 1)])] ⟨asNeS u31 rfl, qT (n ≥ 0), qT (n < 8), qF (psn < 0), qF (psn > 2147483647), nF s.owner n, iA u30 z2 rfl rfl, nF ((s.ops n.toNat) : Int) op, nF s.x n, eT s.wt 3, trivial⟩ trivial ⟨ld (ld_ops s (lineV 1 s.line) 73 (q := n.toNat) (by omega)), trivial⟩ ⟨oe (toL52 (s.pa) (hl)), oe hN, trivial⟩ 2 (lockL []) (lockP ++ [sv 40, sv 41, sv 42]) [(0, 0), (5, 3), (4, 2)]
                    · exact ab ho
                  · by_cases h8 : ((s.wt) : Int) = (3)
                    · simp only [wroteS, if_neg h6] at hN
                      exact pth (dg s ([iv n, iv op, iv psn, iv n0, iv (s.ops n.toNat)] ++ tv t) [(lineV 1 s.line), pt 0 (18 + n.toNat), lineV 5 t.line] [encL s.line, encL t.line]) ⟨[kt .neq 31 (ch 0) (.slice none 0 0), kt .geq 3 (sv 40) (iv 0), kt .lss 3 (sv 40) (iv 8), kf .lss 2 (sv 42) (iv 0), kf .gtr 2 (sv 42) (iv 2147483647), kf .neq 3 (sv 1) (sv 40), kx 30 0 18 40 1, kf .neq 2 (sv 44) (sv 41), kt .neq 3 (sv 0) (sv 40), kt .eql 71 (sv 29) (iv 3)], [], [([2, 1000000], (eLd 1 5 [] 44))]⟩ [(52, [{ args := [.agg (v8 10)], c := 2, foots := [], news := [(2, .row 3 (.lst [sv 43]) false)], res := .slice (some ⟨2, 0, none⟩) 1 INF }]), (73, [(eC0 [pt 0 0] 5 [(1, iv (-1)), (10, .bool false), (11, .bool false), (12, .bool false), (13, .bool false), (14, .bool false), (15, .bool false), (16, .bool false), (17, .bool false)] 45 2 1 0 1)])] ⟨asNeS u31 rfl, qT (n ≥ 0), qT (n < 8), qF (psn < 0), qF (psn > 2147483647), nF s.owner n, iA u30 z2 rfl rfl, nF ((s.ops n.toNat) : Int) op, nT s.x n, eT s.wt 3, trivial⟩ trivial ⟨ld (ld_ops s (lineV 1 s.line) 73 (q := n.toNat) (by omega)), trivial⟩ ⟨oe (toL52 (s.pa) (hl)), oe hN, trivial⟩ 2 (lockL []) (lockP ++ [sv 40, sv 41, sv 42]) [(0, 0), (5, 3), (4, 2)]
                    · exact ab ho
                · exact ab ho
              · exact ab ho
        · exact ab ho
      · exact ab ho
  | cons x l =>
    · by_cases h0 : ((n) : Int) ≥ (0)
      · by_cases h1 : ((n) : Int) < (8)
        · by_cases h2 : ((psn) : Int) < (0)
          · exact ab ho
          · by_cases h3 : ((psn) : Int) > (2147483647)
            · exact ab ho
            · by_cases h4 : ((s.owner) : Int) = (n)
              · by_cases h5 : ((s.ops n.toNat) : Int) = (op)
                · by_cases h6 : ((s.x) : Int) = (n)
                  · by_cases h7 : ((s.wt) : Int) = (3)
                    · simp only [wroteS, if_pos h6] at hN
                      exact pth (dg s ([iv n, iv op, iv psn, iv n0, iv (s.ops n.toNat)] ++ tv t) [(lineV 1 s.line), pt 0 (18 + n.toNat), lineV 5 t.line, .slice (some ⟨6, 0, none⟩) (x :: l).length cap, .slice (some ⟨7, 0, none⟩) ([⟨(6), (n0), (0), (0), (0), (psn)⟩] ++ x :: l : List Ord).length INF] [encL s.line, encL t.line, encOrds (x :: l), encOrds ([⟨(6), (n0), (0), (0), (0), (psn)⟩] ++ x :: l)]) ⟨[kt .neq 31 (ch 0) (.slice none 0 0), kt .geq 3 (sv 40) (iv 0), kt .lss 3 (sv 40) (iv 8), kf .lss 2 (sv 42) (iv 0), kf .gtr 2 (sv 42) (iv 2147483647), kf .neq 3 (sv 1) (sv 40), kx 30 0 18 40 1, kf .neq 2 (sv 44) (sv 41), kf .neq 3 (sv 0) (sv 40), kt .eql 71 (sv 29) (iv 3)], [], [([2, 1000000], (eLd 1 5 [] 44)), ([28, 28], { args := [.slice (some ⟨4, 0, none⟩) 1 INF, ch 3], c := 7, foots := [⟨4, 0, false, .row 45 (.lst [iv 6, sv 43, iv 0, iv 0, iv 0, sv 42]) false, .dead⟩, ⟨6, 1, true, .orow 45 2 false, .dead⟩], news := [(2, .orow 45 3 false)], res := ch 4 })]⟩ [(52, [{ args := [.agg (v8 10)], c := 2, foots := [], news := [(2, .row 3 (.lst [sv 43]) false)], res := .slice (some ⟨2, 0, none⟩) 1 INF }]), (73, [(eC1 [pt 0 0] 5 [(10, .bool false), (11, .bool false), (12, .bool false), (13, .bool false), (14, .bool false), (15, .bool false), (16, .bool false), (17, .bool false)] 45 2 1 0 1 2 (ch 3))])] ⟨asNeS u31 rfl, qT (n ≥ 0), qT (n < 8), qF (psn < 0), qF (psn > 2147483647), nF s.owner n, iA u30 z2 rfl rfl, nF ((s.ops n.toNat) : Int) op, nF s.x n, eT s.wt 3, trivial⟩ trivial ⟨ld (ld_ops s (lineV 1 s.line) 73 (q := n.toNat) (by omega)), ap (app_ords_inf [⟨(6), (n0), (0), (0), (0), (psn)⟩] x l cap (by simp) hlen), trivial⟩ ⟨oe (toL52 (s.pa) (hl)), oe hN, trivial⟩ 2 (lockL []) (lockP ++ [sv 40, sv 41, sv 42]) [(0, 0), (5, 3), (7, 2)]
                    · exact ab ho
                  · by_cases h8 : ((s.wt) : Int) = (3)
                    · simp only [wroteS, if_neg h6] at hN
                      exact pth (dg s ([iv n, iv op, iv psn, iv n0, iv (s.ops n.toNat)] ++ tv t) [(lineV 1 s.line), pt 0 (18 + n.toNat), lineV 5 t.line, .slice (some ⟨6, 0, none⟩) (x :: l).length cap, .slice (some ⟨7, 0, none⟩) ([⟨(6), (n0), (0), (0), (0), (psn)⟩] ++ x :: l : List Ord).length INF] [encL s.line, encL t.line, encOrds (x :: l), encOrds ([⟨(6), (n0), (0), (0), (0), (psn)⟩] ++ x :: l)]) ⟨[kt .neq 31 (ch 0) (.slice none 0 0), kt .geq 3 (sv 40) (iv 0), kt .lss 3 (sv 40) (iv 8), kf .lss 2 (sv 42) (iv 0), kf .gtr 2 (sv 42) (iv 2147483647), kf .neq 3 (sv 1) (sv 40), kx 30 0 18 40 1, kf .neq 2 (sv 44) (sv 41), kt .neq 3 (sv 0) (sv 40), kt .eql 71 (sv 29) (iv 3)], [], [([2, 1000000], (eLd 1 5 [] 44)), ([28, 28], { args := [.slice (some ⟨4, 0, none⟩) 1 INF, ch 3], c := 7, foots := [⟨4, 0, false, .row 45 (.lst [iv 6, sv 43, iv 0, iv 0, iv 0, sv 42]) false, .dead⟩, ⟨6, 1, true, .orow 45 2 false, .dead⟩], news := [(2, .orow 45 3 false)], res := ch 4 })]⟩ [(52, [{ args := [.agg (v8 10)], c := 2, foots := [], news := [(2, .row 3 (.lst [sv 43]) false)], res := .slice (some ⟨2, 0, none⟩) 1 INF }]), (73, [(eC1 [pt 0 0] 5 [(1, iv (-1)), (10, .bool false), (11, .bool false), (12, .bool false), (13, .bool false), (14, .bool false), (15, .bool false), (16, .bool false), (17, .bool false)] 45 2 1 0 1 2 (ch 3))])] ⟨asNeS u31 rfl, qT (n ≥ 0), qT (n < 8), qF (psn < 0), qF (psn > 2147483647), nF s.owner n, iA u30 z2 rfl rfl, nF ((s.ops n.toNat) : Int) op, nT s.x n, eT s.wt 3, trivial⟩ trivial ⟨ld (ld_ops s (lineV 1 s.line) 73 (q := n.toNat) (by omega)), ap (app_ords_inf [⟨(6), (n0), (0), (0), (0), (psn)⟩] x l cap (by simp) hlen), trivial⟩ ⟨oe (toL52 (s.pa) (hl)), oe hN, trivial⟩ 2 (lockL []) (lockP ++ [sv 40, sv 41, sv 42]) [(0, 0), (5, 3), (7, 2)]
                    · exact ab ho
                · exact ab ho
              · exact ab ho
        · exact ab ho
      · exact ab ho
theorem wrote_t2 {s : St} {n op psn : Int} {n0 n1 : Int} (hl : listTo s.pa 8 = [n0, n1]) (ho : (0 ≤ n ∧ n < 8) ∧ (0 ≤ psn ∧ psn ≤ 2147483647) ∧ ¬ (s.owner = n ∧ s.ops n.toNat = op ∧ s.wt = 3)) : MC 32 [.int .i64 n, .int .i64 op, .int .i64 psn] s (wroteT s n op) (discs psn [n0, n1]) := by
  refine MC.mk (cap := INF) ?_
  · by_cases h0 : ((n) : Int) ≥ (0)
    · by_cases h1 : ((n) : Int) < (8)
      · by_cases h2 : ((psn) : Int) < (0)
        · exact ab ho
        · by_cases h3 : ((psn) : Int) > (2147483647)
          · exact ab ho
          · by_cases h4 : ((s.owner) : Int) = (n)
            · by_cases h5 : ((s.ops n.toNat) : Int) = (op)
              · by_cases h6 : ((s.x) : Int) = (n)
                · by_cases h7 : ((s.wt) : Int) = (3)
                  · exact ab ho
                  · simp only [wroteT, wroteS, if_pos h4, if_pos h5, if_pos h6]
                    exact pth (dg s [iv n, iv op, iv psn, iv n0, iv n1, iv (s.ops n.toNat)] [(lineV 1 s.line), pt 0 (18 + n.toNat)] [encL s.line]) ⟨[kt .neq 31 (ch 0) (.slice none 0 0), kt .geq 3 (sv 40) (iv 0), kt .lss 3 (sv 40) (iv 8), kf .lss 2 (sv 42) (iv 0), kf .gtr 2 (sv 42) (iv 2147483647), kf .neq 3 (sv 1) (sv 40), kx 30 0 18 40 1, kf .neq 2 (sv 45) (sv 41), kf .neq 3 (sv 0) (sv 40), kf .eql 71 (sv 29) (iv 3)], [], [([2, 1000000], (eLd 1 7 [] 45))]⟩ [(52, [{ args := [.agg (v8 10)], c := 2, foots := [], news := [(2, .row 3 (.lst [sv 43, sv 44]) false)], res := .slice (some ⟨2, 0, none⟩) 2 INF }])] ⟨asNeS u31 rfl, qT (n ≥ 0), qT (n < 8), qF (psn < 0), qF (psn > 2147483647), nF s.owner n, iA u30 z2 rfl rfl, nF ((s.ops n.toNat) : Int) op, nF s.x n, eF s.wt 3, trivial⟩ trivial ⟨ld (ld_ops s (lineV 1 s.line) 73 (q := n.toNat) (by omega)), trivial⟩ ⟨oe (toL52 (s.pa) (hl)), trivial⟩ 2 (lockL []) (lockP ++ [sv 40, sv 41, sv 42]) [(0, 0), (1, 3), (6, 2)]
                · by_cases h8 : ((s.wt) : Int) = (3)
                  · exact ab ho
                  · simp only [wroteT, wroteS, if_pos h4, if_pos h5, if_neg h6]
                    exact pth (dg s [iv n, iv op, iv psn, iv n0, iv n1, iv (s.ops n.toNat)] [(lineV 1 s.line), pt 0 (18 + n.toNat)] [encL s.line]) ⟨[kt .neq 31 (ch 0) (.slice none 0 0), kt .geq 3 (sv 40) (iv 0), kt .lss 3 (sv 40) (iv 8), kf .lss 2 (sv 42) (iv 0), kf .gtr 2 (sv 42) (iv 2147483647), kf .neq 3 (sv 1) (sv 40), kx 30 0 18 40 1, kf .neq 2 (sv 45) (sv 41), kt .neq 3 (sv 0) (sv 40), kf .eql 71 (sv 29) (iv 3)], [], [([2, 1000000], (eLd 1 7 [] 45))]⟩ [(52, [{ args := [.agg (v8 10)], c := 2, foots := [], news := [(2, .row 3 (.lst [sv 43, sv 44]) false)], res := .slice (some ⟨2, 0, none⟩) 2 INF }])] ⟨asNeS u31 rfl, qT (n ≥ 0), qT (n < 8), qF (psn < 0), qF (psn > 2147483647), nF s.owner n, iA u30 z2 rfl rfl, nF ((s.ops n.toNat) : Int) op, nT s.x n, eF s.wt 3, trivial⟩ trivial ⟨ld (ld_ops s (lineV 1 s.line) 73 (q := n.toNat) (by omega)), trivial⟩ ⟨oe (toL52 (s.pa) (hl)), trivial⟩ 2 (lockL []) (lockP ++ [sv 40, sv 41, sv 42]) [(0, 0), (1, 3), (6, 2)]
              · simp only [wroteT, wroteS, if_pos h4, if_neg h5]
                exact pth (dg s [iv n, iv op, iv psn, iv n0, iv n1, iv (s.ops n.toNat)] [(lineV 1 s.line), pt 0 (18 + n.toNat)] [encL s.line]) ⟨[kt .neq 31 (ch 0) (.slice none 0 0), kt .geq 3 (sv 40) (iv 0), kt .lss 3 (sv 40) (iv 8), kf .lss 2 (sv 42) (iv 0), kf .gtr 2 (sv 42) (iv 2147483647), kf .neq 3 (sv 1) (sv 40), kx 30 0 18 40 1, kt .neq 2 (sv 45) (sv 41)], [], [([2, 1000000], (eLd 1 7 [] 45))]⟩ [(52, [{ args := [.agg (v8 10)], c := 2, foots := [], news := [(2, .row 3 (.lst [sv 43, sv 44]) false)], res := .slice (some ⟨2, 0, none⟩) 2 INF }])] ⟨asNeS u31 rfl, qT (n ≥ 0), qT (n < 8), qF (psn < 0), qF (psn > 2147483647), nF s.owner n, iA u30 z2 rfl rfl, nT ((s.ops n.toNat) : Int) op, trivial⟩ trivial ⟨ld (ld_ops s (lineV 1 s.line) 73 (q := n.toNat) (by omega)), trivial⟩ ⟨oe (toL52 (s.pa) (hl)), trivial⟩ 2 (lockL []) (lockP ++ [sv 40, sv 41, sv 42]) [(0, 0), (1, 3), (6, 2)]
            · simp only [wroteT, wroteS, if_neg h4]
              exact pth (dg s [iv n, iv op, iv psn, iv n0, iv n1] [(lineV 1 s.line)] [encL s.line]) ⟨[kt .neq 31 (ch 0) (.slice none 0 0), kt .geq 3 (sv 40) (iv 0), kt .lss 3 (sv 40) (iv 8), kf .lss 2 (sv 42) (iv 0), kf .gtr 2 (sv 42) (iv 2147483647), kt .neq 3 (sv 1) (sv 40)], [], []⟩ [(52, [{ args := [.agg (v8 10)], c := 2, foots := [], news := [(2, .row 3 (.lst [sv 43, sv 44]) false)], res := .slice (some ⟨2, 0, none⟩) 2 INF }])] ⟨asNeS u31 rfl, qT (n ≥ 0), qT (n < 8), qF (psn < 0), qF (psn > 2147483647), nT s.owner n, trivial⟩ trivial trivial ⟨oe (toL52 (s.pa) (hl)), trivial⟩ 2 (lockL []) (lockP ++ [sv 40, sv 41, sv 42]) [(0, 0), (1, 3), (6, 2)]
      · exact ab ho
    · exact ab ho
theorem wrote_w2 {s t : St} {n op psn : Int} {n0 n1 : Int} {o : List Ord} (hlen : o.length < 1000000) (hl : listTo s.pa 8 = [n0, n1]) (ho : (0 ≤ n ∧ n < 8) ∧ (0 ≤ psn ∧ psn ≤ 2147483647) ∧ (s.owner = n ∧ s.ops n.toNat = op ∧ s.wt = 3)) (h : MC 73 [] (wroteS s n) t o) : MC 32 [.int .i64 n, .int .i64 op, .int .i64 psn] s t (discs psn [n0, n1] ++ o) := by
  obtain ⟨cap, hcap, hN⟩ := h
  refine MC.mk (cap := INF) ?_
  cases o with
  | nil =>
    · by_cases h0 : ((n) : Int) ≥ (0)
      · by_cases h1 : ((n) : Int) < (8)
        · by_cases h2 : ((psn) : Int) < (0)
          · exact ab ho
          · by_cases h3 : ((psn) : Int) > (2147483647)
            · exact ab ho
            · by_cases h4 : ((s.owner) : Int) = (n)
              · by_cases h5 : ((s.ops n.toNat) : Int) = (op)
                · by_cases h6 : ((s.x) : Int) = (n)
                  · by_cases h7 : ((s.wt) : Int) = (3)
                    · simp only [wroteS, if_pos h6] at hN
                      exact pth (dg s ([iv n, iv op, iv psn, iv n0, iv n1, iv (s.ops n.toNat)] ++ tv t) [(lineV 1 s.line), pt 0 (18 + n.toNat), lineV 7 t.line] [encL s.line, encL t.line]) ⟨[kt .neq 31 (ch 0) (.slice none 0 0), kt .geq 3 (sv 40) (iv 0), kt .lss 3 (sv 40) (iv 8), kf .lss 2 (sv 42) (iv 0), kf .gtr 2 (sv 42) (iv 2147483647), kf .neq 3 (sv 1) (sv 40), kx 30 0 18 40 1, kf .neq 2 (sv 45) (sv 41), kf .neq 3 (sv 0) (sv 40), kt .eql 71 (sv 29) (iv 3)], [], [([2, 1000000], (eLd 1 7 [] 45))]⟩ [(52, [{ args := [.agg (v8 10)], c := 2, foots := [], news := [(2, .row 3 (.lst [sv 43, sv 44]) false)], res := .slice (some ⟨2, 0, none⟩) 2 INF }]), (73, [(eC0 [pt 0 0] 7 [(10, .bool false), (11, .bool false), (12, .bool false), (13, .bool false), (14, .bool false), (15, .bool false), (16, .bool false), (17, .bool false)] 46 2 1 0 1)])] ⟨asNeS u31 rfl, qT (n ≥ 0), qT (n < 8), qF (psn < 0), qF (psn > 2147483647), nF s.owner n, iA u30 z2 rfl rfl, nF ((s.ops n.toNat) : Int) op, nF s.x n, eT s.wt 3, trivial⟩ trivial ⟨ld (ld_ops s (lineV 1 s.line) 73 (q := n.toNat) (by omega)), trivial⟩ ⟨oe (toL52 (s.pa) (hl)), oe hN, trivial⟩ 2 (lockL []) (lockP ++ [sv 40, sv 41, sv 42]) [(0, 0), (7, 3), (6, 2)]
                    · exact ab ho
                  · by_cases h8 : ((s.wt) : Int) = (3)
                    · simp only [wroteS, if_neg h6] at hN
                      exact pth (dg s ([iv n, iv op, iv psn, iv n0, iv n1, iv (s.ops n.toNat)] ++ tv t) [(lineV 1 s.line), pt 0 (18 + n.toNat), lineV 7 t.line] [encL s.line, encL t.line]) ⟨[kt .neq 31 (ch 0) (.slice none 0 0), kt .geq 3 (sv 40) (iv 0), kt .lss 3 (sv 40) (iv 8), kf .lss 2 (sv 42) (iv 0), kf .gtr 2 (sv 42) (iv 2147483647), kf .neq 3 (sv 1) (sv 40), kx 30 0 18 40 1, kf .neq 2 (sv 45) (sv 41), kt .neq 3 (sv 0) (sv 40), kt .eql 71 (sv 29) (iv 3)], [], [([2, 1000000], (eLd 1 7 [] 45))]⟩ [(52, [{ args := [.agg (v8 10)], c := 2, foots := [], news := [(2, .row 3 (.lst [sv 43, sv 44]) false)], res := .slice (some ⟨2, 0, none⟩) 2 INF }]), (73, [(eC0 [pt 0 0] 7 [(1, iv (-1)), (10, .bool false), (11, .bool false), (12, .bool false), (13, .bool false), (14, .bool false), (15, .bool false), (16, .bool false), (17, .bool false)] 46 2 1 0 1)])] ⟨asNeS u31 rfl, qT (n ≥ 0), qT (n < 8), qF (psn < 0), qF (psn > 2147483647), nF s.owner n, iA u30 z2 rfl rfl, nF ((s.ops n.toNat) : Int) op, nT s.x n, eT s.wt 3, trivial⟩ trivial ⟨ld (ld_ops s (lineV 1 s.line) 73 (q := n.toNat) (by omega)), trivial⟩ ⟨oe (toL52 (s.pa) (hl)), oe hN, trivial⟩ 2 (lockL []) (lockP ++ [sv 40, sv 41, sv 42]) [(0, 0), (7, 3), (6, 2)]
                    · exact ab ho
                · exact ab ho
              · exact ab ho
        · exact ab ho
      · exact ab ho
  | cons x l =>
    · by_cases h0 : ((n) : Int) ≥ (0)
      · by_cases h1 : ((n) : Int) < (8)
        · by_cases h2 : ((psn) : Int) < (0)
          · exact ab ho
          · by_cases h3 : ((psn) : Int) > (2147483647)
            · exact ab ho
            · by_cases h4 : ((s.owner) : Int) = (n)
              · by_cases h5 : ((s.ops n.toNat) : Int) = (op)
                · by_cases h6 : ((s.x) : Int) = (n)
                  · by_cases h7 : ((s.wt) : Int) = (3)
                    · simp only [wroteS, if_pos h6] at hN
                      exact pth (dg s ([iv n, iv op, iv psn, iv n0, iv n1, iv (s.ops n.toNat)] ++ tv t) [(lineV 1 s.line), pt 0 (18 + n.toNat), lineV 7 t.line, .slice (some ⟨8, 0, none⟩) (x :: l).length cap, .slice (some ⟨9, 0, none⟩) ([⟨(6), (n0), (0), (0), (0), (psn)⟩, ⟨(6), (n1), (0), (0), (0), (psn)⟩] ++ x :: l : List Ord).length INF] [encL s.line, encL t.line, encOrds (x :: l), encOrds ([⟨(6), (n0), (0), (0), (0), (psn)⟩, ⟨(6), (n1), (0), (0), (0), (psn)⟩] ++ x :: l)]) ⟨[kt .neq 31 (ch 0) (.slice none 0 0), kt .geq 3 (sv 40) (iv 0), kt .lss 3 (sv 40) (iv 8), kf .lss 2 (sv 42) (iv 0), kf .gtr 2 (sv 42) (iv 2147483647), kf .neq 3 (sv 1) (sv 40), kx 30 0 18 40 1, kf .neq 2 (sv 45) (sv 41), kf .neq 3 (sv 0) (sv 40), kt .eql 71 (sv 29) (iv 3)], [], [([2, 1000000], (eLd 1 7 [] 45)), ([28, 28], { args := [.slice (some ⟨6, 0, none⟩) 2 INF, ch 3], c := 9, foots := [⟨6, 0, false, .row 45 (.lst [iv 6, sv 43, iv 0, iv 0, iv 0, sv 42, iv 6, sv 44, iv 0, iv 0, iv 0, sv 42]) false, .dead⟩, ⟨8, 1, true, .orow 45 2 false, .dead⟩], news := [(2, .orow 45 3 false)], res := ch 4 })]⟩ [(52, [{ args := [.agg (v8 10)], c := 2, foots := [], news := [(2, .row 3 (.lst [sv 43, sv 44]) false)], res := .slice (some ⟨2, 0, none⟩) 2 INF }]), (73, [(eC1 [pt 0 0] 7 [(10, .bool false), (11, .bool false), (12, .bool false), (13, .bool false), (14, .bool false), (15, .bool false), (16, .bool false), (17, .bool false)] 46 2 1 0 1 2 (ch 3))])] ⟨asNeS u31 rfl, qT (n ≥ 0), qT (n < 8), qF (psn < 0), qF (psn > 2147483647), nF s.owner n, iA u30 z2 rfl rfl, nF ((s.ops n.toNat) : Int) op, nF s.x n, eT s.wt 3, trivial⟩ trivial ⟨ld (ld_ops s (lineV 1 s.line) 73 (q := n.toNat) (by omega)), ap (app_ords_inf [⟨(6), (n0), (0), (0), (0), (psn)⟩, ⟨(6), (n1), (0), (0), (0), (psn)⟩] x l cap (by simp) hlen), trivial⟩ ⟨oe (toL52 (s.pa) (hl)), oe hN, trivial⟩ 2 (lockL []) (lockP ++ [sv 40, sv 41, sv 42]) [(0, 0), (7, 3), (9, 2)]
                    · exact ab ho
                  · by_cases h8 : ((s.wt) : Int) = (3)
                    · simp only [wroteS, if_neg h6] at hN
                      exact pth (dg s ([iv n, iv op, iv psn, iv n0, iv n1, iv (s.ops n.toNat)] ++ tv t) [(lineV 1 s.line), pt 0 (18 + n.toNat), lineV 7 t.line, .slice (some ⟨8, 0, none⟩) (x :: l).length cap, .slice (some ⟨9, 0, none⟩) ([⟨(6), (n0), (0), (0), (0), (psn)⟩, ⟨(6), (n1), (0), (0), (0), (psn)⟩] ++ x :: l : List Ord).length INF] [encL s.line, encL t.line, encOrds (x :: l), encOrds ([⟨(6), (n0), (0), (0), (0), (psn)⟩, ⟨(6), (n1), (0), (0), (0), (psn)⟩] ++ x :: l)]) ⟨[kt .neq 31 (ch 0) (.slice none 0 0), kt .geq 3 (sv 40) (iv 0), kt .lss 3 (sv 40) (iv 8), kf .lss 2 (sv 42) (iv 0), kf .gtr 2 (sv 42) (iv 2147483647), kf .neq 3 (sv 1) (sv 40), kx 30 0 18 40 1, kf .neq 2 (sv 45) (sv 41), kt .neq 3 (sv 0) (sv 40), kt .eql 71 (sv 29) (iv 3)], [], [([2, 1000000], (eLd 1 7 [] 45)), ([28, 28], { args := [.slice (some ⟨6, 0, none⟩) 2 INF, ch 3], c := 9, foots := [⟨6, 0, false, .row 45 (.lst [iv 6, sv 43, iv 0, iv 0, iv 0, sv 42, iv 6, sv 44, iv 0, iv 0, iv 0, sv 42]) false, .dead⟩, ⟨8, 1, true, .orow 45 2 false, .dead⟩], news := [(2, .orow 45 3 false)], res := ch 4 })]⟩ [(52, [{ args := [.agg (v8 10)], c := 2, foots := [], news := [(2, .row 3 (.lst [sv 43, sv 44]) false)], res := .slice (some ⟨2, 0, none⟩) 2 INF }]), (73, [(eC1 [pt 0 0] 7 [(1, iv (-1)), (10, .bool false), (11, .bool false), (12, .bool false), (13, .bool false), (14, .bool false), (15, .bool false), (16, .bool false), (17, .bool false)] 46 2 1 0 1 2 (ch 3))])] ⟨asNeS u31 rfl, qT (n ≥ 0), qT (n < 8), qF (psn < 0), qF (psn > 2147483647), nF s.owner n, iA u30 z2 rfl rfl, nF ((s.ops n.toNat) : Int) op, nT s.x n, eT s.wt 3, trivial⟩ trivial ⟨ld (ld_ops s (lineV 1 s.line) 73 (q := n.toNat) (by omega)), ap (app_ords_inf [⟨(6), (n0), (0), (0), (0), (psn)⟩, ⟨(6), (n1), (0), (0), (0), (psn)⟩] x l cap (by simp) hlen), trivial⟩ ⟨oe (toL52 (s.pa) (hl)), oe hN, trivial⟩ 2 (lockL []) (lockP ++ [sv 40, sv 41, sv 42]) [(0, 0), (7, 3), (9, 2)]
                    · exact ab ho
                · exact ab ho
              · exact ab ho
        · exact ab ho
      · exact ab ho
theorem wrote_t3 {s : St} {n op psn : Int} {n0 n1 n2 : Int} (hl : listTo s.pa 8 = [n0, n1, n2]) (ho : (0 ≤ n ∧ n < 8) ∧ (0 ≤ psn ∧ psn ≤ 2147483647) ∧ ¬ (s.owner = n ∧ s.ops n.toNat = op ∧ s.wt = 3)) : MC 32 [.int .i64 n, .int .i64 op, .int .i64 psn] s (wroteT s n op) (discs psn [n0, n1, n2]) := by
  refine MC.mk (cap := INF) ?_
  · by_cases h0 : ((n) : Int) ≥ (0)
    · by_cases h1 : ((n) : Int) < (8)
      · by_cases h2 : ((psn) : Int) < (0)
        · exact ab ho
        · by_cases h3 : ((psn) : Int) > (2147483647)
          · exact ab ho
          · by_cases h4 : ((s.owner) : Int) = (n)
            · by_cases h5 : ((s.ops n.toNat) : Int) = (op)
              · by_cases h6 : ((s.x) : Int) = (n)
                · by_cases h7 : ((s.wt) : Int) = (3)
                  · exact ab ho
                  · simp only [wroteT, wroteS, if_pos h4, if_pos h5, if_pos h6]
                    exact pth (dg s [iv n, iv op, iv psn, iv n0, iv n1, iv n2, iv (s.ops n.toNat)] [(lineV 1 s.line), pt 0 (18 + n.toNat)] [encL s.line]) ⟨[kt .neq 31 (ch 0) (.slice none 0 0), kt .geq 3 (sv 40) (iv 0), kt .lss 3 (sv 40) (iv 8), kf .lss 2 (sv 42) (iv 0), kf .gtr 2 (sv 42) (iv 2147483647), kf .neq 3 (sv 1) (sv 40), kx 30 0 18 40 1, kf .neq 2 (sv 46) (sv 41), kf .neq 3 (sv 0) (sv 40), kf .eql 71 (sv 29) (iv 3)], [], [([2, 1000000], (eLd 1 9 [] 46))]⟩ [(52, [{ args := [.agg (v8 10)], c := 2, foots := [], news := [(2, .row 3 (.lst [sv 43, sv 44, sv 45]) false)], res := .slice (some ⟨2, 0, none⟩) 3 INF }])] ⟨asNeS u31 rfl, qT (n ≥ 0), qT (n < 8), qF (psn < 0), qF (psn > 2147483647), nF s.owner n, iA u30 z2 rfl rfl, nF ((s.ops n.toNat) : Int) op, nF s.x n, eF s.wt 3, trivial⟩ trivial ⟨ld (ld_ops s (lineV 1 s.line) 73 (q := n.toNat) (by omega)), trivial⟩ ⟨oe (toL52 (s.pa) (hl)), trivial⟩ 2 (lockL []) (lockP ++ [sv 40, sv 41, sv 42]) [(0, 0), (1, 3), (8, 2)]
                · by_cases h8 : ((s.wt) : Int) = (3)
                  · exact ab ho
                  · simp only [wroteT, wroteS, if_pos h4, if_pos h5, if_neg h6]
                    exact pth (dg s [iv n, iv op, iv psn, iv n0, iv n1, iv n2, iv (s.ops n.toNat)] [(lineV 1 s.line), pt 0 (18 + n.toNat)] [encL s.line]) ⟨[kt .neq 31 (ch 0) (.slice none 0 0), kt .geq 3 (sv 40) (iv 0), kt .lss 3 (sv 40) (iv 8), kf .lss 2 (sv 42) (iv 0), kf .gtr 2 (sv 42) (iv 2147483647), kf .neq 3 (sv 1) (sv 40), kx 30 0 18 40 1, kf .neq 2 (sv 46) (sv 41), kt .neq 3 (sv 0) (sv 40), kf .eql 71 (sv 29) (iv 3)], [], [([2, 1000000], (eLd 1 9 [] 46))]⟩ [(52, [{ args := [.agg (v8 10)], c := 2, foots := [], news := [(2, .row 3 (.lst [sv 43, sv 44, sv 45]) false)], res := .slice (some ⟨2, 0, none⟩) 3 INF }])] ⟨asNeS u31 rfl, qT (n ≥ 0), qT (n < 8), qF (psn < 0), qF (psn > 2147483647), nF s.owner n, iA u30 z2 rfl rfl, nF ((s.ops n.toNat) : Int) op, nT s.x n, eF s.wt 3, trivial⟩ trivial ⟨ld (ld_ops s (lineV 1 s.line) 73 (q := n.toNat) (by omega)), trivial⟩ ⟨oe (toL52 (s.pa) (hl)), trivial⟩ 2 (lockL []) (lockP ++ [sv 40, sv 41, sv 42]) [(0, 0), (1, 3), (8, 2)]
              · simp only [wroteT, wroteS, if_pos h4, if_neg h5]
                exact pth (dg s [iv n, iv op, iv psn, iv n0, iv n1, iv n2, iv (s.ops n.toNat)] [(lineV 1 s.line), pt 0 (18 + n.toNat)] [encL s.line]) ⟨[kt .neq 31 (ch 0) (.slice none 0 0), kt .geq 3 (sv 40) (iv 0), kt .lss 3 (sv 40) (iv 8), kf .lss 2 (sv 42) (iv 0), kf .gtr 2 (sv 42) (iv 2147483647), kf .neq 3 (sv 1) (sv 40), kx 30 0 18 40 1, kt .neq 2 (sv 46) (sv 41)], [], [([2, 1000000], (eLd 1 9 [] 46))]⟩ [(52, [{ args := [.agg (v8 10)], c := 2, foots := [], news := [(2, .row 3 (.lst [sv 43, sv 44, sv 45]) false)], res := .slice (some ⟨2, 0, none⟩) 3 INF }])] ⟨asNeS u31 rfl, qT (n ≥ 0), qT (n < 8), qF (psn < 0), qF (psn > 2147483647), nF s.owner n, iA u30 z2 rfl rfl, nT ((s.ops n.toNat) : Int) op, trivial⟩ trivial ⟨ld (ld_ops s (lineV 1 s.line) 73 (q := n.toNat) (by omega)), trivial⟩ ⟨oe (toL52 (s.pa) (hl)), trivial⟩ 2 (lockL []) (lockP ++ [sv 40, sv 41, sv 42]) [(0, 0), (1, 3), (8, 2)]
            · simp only [wroteT, wroteS, if_neg h4]
              exact pth (dg s [iv n, iv op, iv psn, iv n0, iv n1, iv n2] [(lineV 1 s.line)] [encL s.line]) ⟨[kt .neq 31 (ch 0) (.slice none 0 0), kt .geq 3 (sv 40) (iv 0), kt .lss 3 (sv 40) (iv 8), kf .lss 2 (sv 42) (iv 0), kf .gtr 2 (sv 42) (iv 2147483647), kt .neq 3 (sv 1) (sv 40)], [], []⟩ [(52, [{ args := [.agg (v8 10)], c := 2, foots := [], news := [(2, .row 3 (.lst [sv 43, sv 44, sv 45]) false)], res := .slice (some ⟨2, 0, none⟩) 3 INF }])] ⟨asNeS u31 rfl, qT (n ≥ 0), qT (n < 8), qF (psn < 0), qF (psn > 2147483647), nT s.owner n, trivial⟩ trivial trivial ⟨oe (toL52 (s.pa) (hl)), trivial⟩ 2 (lockL []) (lockP ++ [sv 40, sv 41, sv 42]) [(0, 0), (1, 3), (8, 2)]
      · exact ab ho
    · exact ab ho
theorem wrote_w3 {s t : St} {n op psn : Int} {n0 n1 n2 : Int} {o : List Ord} (hlen : o.length < 1000000) (hl : listTo s.pa 8 = [n0, n1, n2]) (ho : (0 ≤ n ∧ n < 8) ∧ (0 ≤ psn ∧ psn ≤ 2147483647) ∧ (s.owner = n ∧ s.ops n.toNat = op ∧ s.wt = 3)) (h : MC 73 [] (wroteS s n) t o) : MC 32 [.int .i64 n, .int .i64 op, .int .i64 psn] s t (discs psn [n0, n1, n2] ++ o) := by
  obtain ⟨cap, hcap, hN⟩ := h
  refine MC.mk (cap := INF) ?_
  cases o with
  | nil =>
    · by_cases h0 : ((n) : Int) ≥ (0)
      · by_cases h1 : ((n) : Int) < (8)
        · by_cases h2 : ((psn) : Int) < (0)
          · exact ab ho
          · by_cases h3 : ((psn) : Int) > (2147483647)
            · exact ab ho
            · by_cases h4 : ((s.owner) : Int) = (n)
              · by_cases h5 : ((s.ops n.toNat) : Int) = (op)
                · by_cases h6 : ((s.x) : Int) = (n)
                  · by_cases h7 : ((s.wt) : Int) = (3)
                    · simp only [wroteS, if_pos h6] at hN
                      exact pth (dg s ([iv n, iv op, iv psn, iv n0, iv n1, iv n2, iv (s.ops n.toNat)] ++ tv t) [(lineV 1 s.line), pt 0 (18 + n.toNat), lineV 9 t.line] [encL s.line, encL t.line]) ⟨[kt .neq 31 (ch 0) (.slice none 0 0), kt .geq 3 (sv 40) (iv 0), kt .lss 3 (sv 40) (iv 8), kf .lss 2 (sv 42) (iv 0), kf .gtr 2 (sv 42) (iv 2147483647), kf .neq 3 (sv 1) (sv 40), kx 30 0 18 40 1, kf .neq 2 (sv 46) (sv 41), kf .neq 3 (sv 0) (sv 40), kt .eql 71 (sv 29) (iv 3)], [], [([2, 1000000], (eLd 1 9 [] 46))]⟩ [(52, [{ args := [.agg (v8 10)], c := 2, foots := [], news := [(2, .row 3 (.lst [sv 43, sv 44, sv 45]) false)], res := .slice (some ⟨2, 0, none⟩) 3 INF }]), (73, [(eC0 [pt 0 0] 9 [(10, .bool false), (11, .bool false), (12, .bool false), (13, .bool false), (14, .bool false), (15, .bool false), (16, .bool false), (17, .bool false)] 47 2 1 0 1)])] ⟨asNeS u31 rfl, qT (n ≥ 0), qT (n < 8), qF (psn < 0), qF (psn > 2147483647), nF s.owner n, iA u30 z2 rfl rfl, nF ((s.ops n.toNat) : Int) op, nF s.x n, eT s.wt 3, trivial⟩ trivial ⟨ld (ld_ops s (lineV 1 s.line) 73 (q := n.toNat) (by omega)), trivial⟩ ⟨oe (toL52 (s.pa) (hl)), oe hN, trivial⟩ 2 (lockL []) (lockP ++ [sv 40, sv 41, sv 42]) [(0, 0), (9, 3), (8, 2)]
                    · exact ab ho
                  · by_cases h8 : ((s.wt) : Int) = (3)
                    · simp only [wroteS, if_neg h6] at hN
                      exact pth (dg s ([iv n, iv op, iv psn, iv n0, iv n1, iv n2, iv (s.ops n.toNat)] ++ tv t) [(lineV 1 s.line), pt 0 (18 + n.toNat), lineV 9 t.line] [encL s.line, encL t.line]) ⟨[kt .neq 31 (ch 0) (.slice none 0 0), kt .geq 3 (sv 40) (iv 0), kt .lss 3 (sv 40) (iv 8), kf .lss 2 (sv 42) (iv 0), kf .gtr 2 (sv 42) (iv 2147483647), kf .neq 3 (sv 1) (sv 40), kx 30 0 18 40 1, kf .neq 2 (sv 46) (sv 41), kt .neq 3 (sv 0) (sv 40), kt .eql 71 (sv 29) (iv 3)], [], [([2, 1000000], (eLd 1 9 [] 46))]⟩ [(52, [{ args := [.agg (v8 10)], c := 2, foots := [], news := [(2, .row 3 (.lst [sv 43, sv 44, sv 45]) false)], res := .slice (some ⟨2, 0, none⟩) 3 INF }]), (73, [(eC0 [pt 0 0] 9 [(1, iv (-1)), (10, .bool false), (11, .bool false), (12, .bool false), (13, .bool false), (14, .bool false), (15, .bool false), (16, .bool false), (17, .bool false)] 47 2 1 0 1)])] ⟨asNeS u31 rfl, qT (n ≥ 0), qT (n < 8), qF (psn < 0), qF (psn > 2147483647), nF s.owner n, iA u30 z2 rfl rfl, nF ((s.ops n.toNat) : Int) op, nT s.x n, eT s.wt 3, trivial⟩ trivial ⟨ld (ld_ops s (lineV 1 s.line) 73 (q := n.toNat) (by omega)), trivial⟩ ⟨oe (toL52 (s.pa) (hl)), oe hN, trivial⟩ 2 (lockL []) (lockP ++ [sv 40, sv 41, sv 42]) [(0, 0), (9, 3), (8, 2)]
                    · exact ab ho
                · exact ab ho
              · exact ab ho
        · exact ab ho
      · exact ab ho
  | cons x l =>
    · by_cases h0 : ((n) : Int) ≥ (0)
      · by_cases h1 : ((n) : Int) < (8)
        · by_cases h2 : ((psn) : Int) < (0)
          · exact ab ho
          · by_cases h3 : ((psn) : Int) > (2147483647)
            · exact ab ho
            · by_cases h4 : ((s.owner) : Int) = (n)
              · by_cases h5 : ((s.ops n.toNat) : Int) = (op)
                · by_cases h6 : ((s.x) : Int) = (n)
                  · by_cases h7 : ((s.wt) : Int) = (3)
                    · simp only [wroteS, if_pos h6] at hN
                      exact pth (dg s ([iv n, iv op, iv psn, iv n0, iv n1, iv n2, iv (s.ops n.toNat)] ++ tv t) [(lineV 1 s.line), pt 0 (18 + n.toNat), lineV 9 t.line, .slice (some ⟨10, 0, none⟩) (x :: l).length cap, .slice (some ⟨11, 0, none⟩) ([⟨(6), (n0), (0), (0), (0), (psn)⟩, ⟨(6), (n1), (0), (0), (0), (psn)⟩, ⟨(6), (n2), (0), (0), (0), (psn)⟩] ++ x :: l : List Ord).length INF] [encL s.line, encL t.line, encOrds (x :: l), encOrds ([⟨(6), (n0), (0), (0), (0), (psn)⟩, ⟨(6), (n1), (0), (0), (0), (psn)⟩, ⟨(6), (n2), (0), (0), (0), (psn)⟩] ++ x :: l)]) ⟨[kt .neq 31 (ch 0) (.slice none 0 0), kt .geq 3 (sv 40) (iv 0), kt .lss 3 (sv 40) (iv 8), kf .lss 2 (sv 42) (iv 0), kf .gtr 2 (sv 42) (iv 2147483647), kf .neq 3 (sv 1) (sv 40), kx 30 0 18 40 1, kf .neq 2 (sv 46) (sv 41), kf .neq 3 (sv 0) (sv 40), kt .eql 71 (sv 29) (iv 3)], [], [([2, 1000000], (eLd 1 9 [] 46)), ([28, 28], { args := [.slice (some ⟨8, 0, none⟩) 3 INF, ch 3], c := 11, foots := [⟨8, 0, false, .row 45 (.lst [iv 6, sv 43, iv 0, iv 0, iv 0, sv 42, iv 6, sv 44, iv 0, iv 0, iv 0, sv 42, iv 6, sv 45, iv 0, iv 0, iv 0, sv 42]) false, .dead⟩, ⟨10, 1, true, .orow 45 2 false, .dead⟩], news := [(2, .orow 45 3 false)], res := ch 4 })]⟩ [(52, [{ args := [.agg (v8 10)], c := 2, foots := [], news := [(2, .row 3 (.lst [sv 43, sv 44, sv 45]) false)], res := .slice (some ⟨2, 0, none⟩) 3 INF }]), (73, [(eC1 [pt 0 0] 9 [(10, .bool false), (11, .bool false), (12, .bool false), (13, .bool false), (14, .bool false), (15, .bool false), (16, .bool false), (17, .bool false)] 47 2 1 0 1 2 (ch 3))])] ⟨asNeS u31 rfl, qT (n ≥ 0), qT (n < 8), qF (psn < 0), qF (psn > 2147483647), nF s.owner n, iA u30 z2 rfl rfl, nF ((s.ops n.toNat) : Int) op, nF s.x n, eT s.wt 3, trivial⟩ trivial ⟨ld (ld_ops s (lineV 1 s.line) 73 (q := n.toNat) (by omega)), ap (app_ords_inf [⟨(6), (n0), (0), (0), (0), (psn)⟩, ⟨(6), (n1), (0), (0), (0), (psn)⟩, ⟨(6), (n2), (0), (0), (0), (psn)⟩] x l cap (by simp) hlen), trivial⟩ ⟨oe (toL52 (s.pa) (hl)), oe hN, trivial⟩ 2 (lockL []) (lockP ++ [sv 40, sv 41, sv 42]) [(0, 0), (9, 3), (11, 2)]
                    · exact ab ho
                  · by_cases h8 : ((s.wt) : Int) = (3)
                    · simp only [wroteS, if_neg h6] at hN
                      exact pth (dg s ([iv n, iv op, iv psn, iv n0, iv n1, iv n2, iv (s.ops n.toNat)] ++ tv t) [(lineV 1 s.line), pt 0 (18 + n.toNat), lineV 9 t.line, .slice (some ⟨10, 0, none⟩) (x :: l).length cap, .slice (some ⟨11, 0, none⟩) ([⟨(6), (n0), (0), (0), (0), (psn)⟩, ⟨(6), (n1), (0), (0), (0), (psn)⟩, ⟨(6), (n2), (0), (0), (0), (psn)⟩] ++ x :: l : List Ord).length INF] [encL s.line, encL t.line, encOrds (x :: l), encOrds ([⟨(6), (n0), (0), (0), (0), (psn)⟩, ⟨(6), (n1), (0), (0), (0), (psn)⟩, ⟨(6), (n2), (0), (0), (0), (psn)⟩] ++ x :: l)]) ⟨[kt .neq 31 (ch 0) (.slice none 0 0), kt .geq 3 (sv 40) (iv 0), kt .lss 3 (sv 40) (iv 8), kf .lss 2 (sv 42) (iv 0), kf .gtr 2 (sv 42) (iv 2147483647), kf .neq 3 (sv 1) (sv 40), kx 30 0 18 40 1, kf .neq 2 (sv 46) (sv 41), kt .neq 3 (sv 0) (sv 40), kt .eql 71 (sv 29) (iv 3)], [], [([2, 1000000], (eLd 1 9 [] 46)), ([28, 28], { args := [.slice (some ⟨8, 0, none⟩) 3 INF, ch 3], c := 11, foots := [⟨8, 0, false, .row 45 (.lst [iv 6, sv 43, iv 0, iv 0, iv 0, sv 42, iv 6, sv 44, iv 0, iv 0, iv 0, sv 42, iv 6, sv 45, iv 0, iv 0, iv 0, sv 42]) false, .dead⟩, ⟨10, 1, true, .orow 45 2 false, .dead⟩], news := [(2, .orow 45 3 false)], res := ch 4 })]⟩ [(52, [{ args := [.agg (v8 10)], c := 2, foots := [], news := [(2, .row 3 (.lst [sv 43, sv 44, sv 45]) false)], res := .slice (some ⟨2, 0, none⟩) 3 INF }]), (73, [(eC1 [pt 0 0] 9 [(1, iv (-1)), (10, .bool false), (11, .bool false), (12, .bool false), (13, .bool false), (14, .bool false), (15, .bool false), (16, .bool false), (17, .bool false)] 47 2 1 0 1 2 (ch 3))])] ⟨asNeS u31 rfl, qT (n ≥ 0), qT (n < 8), qF (psn < 0), qF (psn > 2147483647), nF s.owner n, iA u30 z2 rfl rfl, nF ((s.ops n.toNat) : Int) op, nT s.x n, eT s.wt 3, trivial⟩ trivial ⟨ld (ld_ops s (lineV 1 s.line) 73 (q := n.toNat) (by omega)), ap (app_ords_inf [⟨(6), (n0), (0), (0), (0), (psn)⟩, ⟨(6), (n1), (0), (0), (0), (psn)⟩, ⟨(6), (n2), (0), (0), (0), (psn)⟩] x l cap (by simp) hlen), trivial⟩ ⟨oe (toL52 (s.pa) (hl)), oe hN, trivial⟩ 2 (lockL []) (lockP ++ [sv 40, sv 41, sv 42]) [(0, 0), (9, 3), (11, 2)]
                    · exact ab ho
                · exact ab ho
              · exact ab ho
        · exact ab ho
      · exact ab ho
theorem wrote_t4 {s : St} {n op psn : Int} {n0 n1 n2 n3 : Int} (hl : listTo s.pa 8 = [n0, n1, n2, n3]) (ho : (0 ≤ n ∧ n < 8) ∧ (0 ≤ psn ∧ psn ≤ 2147483647) ∧ ¬ (s.owner = n ∧ s.ops n.toNat = op ∧ s.wt = 3)) : MC 32 [.int .i64 n, .int .i64 op, .int .i64 psn] s (wroteT s n op) (discs psn [n0, n1, n2, n3]) := by
  refine MC.mk (cap := INF) ?_
  · by_cases h0 : ((n) : Int) ≥ (0)
    · by_cases h1 : ((n) : Int) < (8)
      · by_cases h2 : ((psn) : Int) < (0)
        · exact ab ho
        · by_cases h3 : ((psn) : Int) > (2147483647)
          · exact ab ho
          · by_cases h4 : ((s.owner) : Int) = (n)
            · by_cases h5 : ((s.ops n.toNat) : Int) = (op)
              · by_cases h6 : ((s.x) : Int) = (n)
                · by_cases h7 : ((s.wt) : Int) = (3)
                  · exact ab ho
                  · simp only [wroteT, wroteS, if_pos h4, if_pos h5, if_pos h6]
                    exact pth (dg s [iv n, iv op, iv psn, iv n0, iv n1, iv n2, iv n3, iv (s.ops n.toNat)] [(lineV 1 s.line), pt 0 (18 + n.toNat)] [encL s.line]) ⟨[kt .neq 31 (ch 0) (.slice none 0 0), kt .geq 3 (sv 40) (iv 0), kt .lss 3 (sv 40) (iv 8), kf .lss 2 (sv 42) (iv 0), kf .gtr 2 (sv 42) (iv 2147483647), kf .neq 3 (sv 1) (sv 40), kx 30 0 18 40 1, kf .neq 2 (sv 47) (sv 41), kf .neq 3 (sv 0) (sv 40), kf .eql 71 (sv 29) (iv 3)], [], [([2, 1000000], (eLd 1 11 [] 47))]⟩ [(52, [{ args := [.agg (v8 10)], c := 2, foots := [], news := [(2, .row 3 (.lst [sv 43, sv 44, sv 45, sv 46]) false)], res := .slice (some ⟨2, 0, none⟩) 4 INF }])] ⟨asNeS u31 rfl, qT (n ≥ 0), qT (n < 8), qF (psn < 0), qF (psn > 2147483647), nF s.owner n, iA u30 z2 rfl rfl, nF ((s.ops n.toNat) : Int) op, nF s.x n, eF s.wt 3, trivial⟩ trivial ⟨ld (ld_ops s (lineV 1 s.line) 73 (q := n.toNat) (by omega)), trivial⟩ ⟨oe (toL52 (s.pa) (hl)), trivial⟩ 2 (lockL []) (lockP ++ [sv 40, sv 41, sv 42]) [(0, 0), (1, 3), (10, 2)]
                · by_cases h8 : ((s.wt) : Int) = (3)
                  · exact ab ho
                  · simp only [wroteT, wroteS, if_pos h4, if_pos h5, if_neg h6]
                    exact pth (dg s [iv n, iv op, iv psn, iv n0, iv n1, iv n2, iv n3, iv (s.ops n.toNat)] [(lineV 1 s.line), pt 0 (18 + n.toNat)] [encL s.line]) ⟨[kt .neq 31 (ch 0) (.slice none 0 0), kt .geq 3 (sv 40) (iv 0), kt .lss 3 (sv 40) (iv 8), kf .lss 2 (sv 42) (iv 0), kf .gtr 2 (sv 42) (iv 2147483647), kf .neq 3 (sv 1) (sv 40), kx 30 0 18 40 1, kf .neq 2 (sv 47) (sv 41), kt .neq 3 (sv 0) (sv 40), kf .eql 71 (sv 29) (iv 3)], [], [([2, 1000000], (eLd 1 11 [] 47))]⟩ [(52, [{ args := [.agg (v8 10)], c := 2, foots := [], news := [(2, .row 3 (.lst [sv 43, sv 44, sv 45, sv 46]) false)], res := .slice (some ⟨2, 0, none⟩) 4 INF }])] ⟨asNeS u31 rfl, qT (n ≥ 0), qT (n < 8), qF (psn < 0), qF (psn > 2147483647), nF s.owner n, iA u30 z2 rfl rfl, nF ((s.ops n.toNat) : Int) op, nT s.x n, eF s.wt 3, trivial⟩ trivial ⟨ld (ld_ops s (lineV 1 s.line) 73 (q := n.toNat) (by omega)), trivial⟩ ⟨oe (toL52 (s.pa) (hl)), trivial⟩ 2 (lockL []) (lockP ++ [sv 40, sv 41, sv 42]) [(0, 0), (1, 3), (10, 2)]
              · simp only [wroteT, wroteS, if_pos h4, if_neg h5]
                exact pth (dg s [iv n, iv op, iv psn, iv n0, iv n1, iv n2, iv n3, iv (s.ops n.toNat)] [(lineV 1 s.line), pt 0 (18 + n.toNat)] [encL s.line]) ⟨[kt .neq 31 (ch 0) (.slice none 0 0), kt .geq 3 (sv 40) (iv 0), kt .lss 3 (sv 40) (iv 8), kf .lss 2 (sv 42) (iv 0), kf .gtr 2 (sv 42) (iv 2147483647), kf .neq 3 (sv 1) (sv 40), kx 30 0 18 40 1, kt .neq 2 (sv 47) (sv 41)], [], [([2, 1000000], (eLd 1 11 [] 47))]⟩ [(52, [{ args := [.agg (v8 10)], c := 2, foots := [], news := [(2, .row 3 (.lst [sv 43, sv 44, sv 45, sv 46]) false)], res := .slice (some ⟨2, 0, none⟩) 4 INF }])] ⟨asNeS u31 rfl, qT (n ≥ 0), qT (n < 8), qF (psn < 0), qF (psn > 2147483647), nF s.owner n, iA u30 z2 rfl rfl, nT ((s.ops n.toNat) : Int) op, trivial⟩ trivial ⟨ld (ld_ops s (lineV 1 s.line) 73 (q := n.toNat) (by omega)), trivial⟩ ⟨oe (toL52 (s.pa) (hl)), trivial⟩ 2 (lockL []) (lockP ++ [sv 40, sv 41, sv 42]) [(0, 0), (1, 3), (10, 2)]
            · simp only [wroteT, wroteS, if_neg h4]
              exact pth (dg s [iv n, iv op, iv psn, iv n0, iv n1, iv n2, iv n3] [(lineV 1 s.line)] [encL s.line]) ⟨[kt .neq 31 (ch 0) (.slice none 0 0), kt .geq 3 (sv 40) (iv 0), kt .lss 3 (sv 40) (iv 8), kf .lss 2 (sv 42) (iv 0), kf .gtr 2 (sv 42) (iv 2147483647), kt .neq 3 (sv 1) (sv 40)], [], []⟩ [(52, [{ args := [.agg (v8 10)], c := 2, foots := [], news := [(2, .row 3 (.lst [sv 43, sv 44, sv 45, sv 46]) false)], res := .slice (some ⟨2, 0, none⟩) 4 INF }])] ⟨asNeS u31 rfl, qT (n ≥ 0), qT (n < 8), qF (psn < 0), qF (psn > 2147483647), nT s.owner n, trivial⟩ trivial trivial ⟨oe (toL52 (s.pa) (hl)), trivial⟩ 2 (lockL []) (lockP ++ [sv 40, sv 41, sv 42]) [(0, 0), (1, 3), (10, 2)]
      · exact ab ho
    · exact ab ho
theorem wrote_w4 {s t : St} {n op psn : Int} {n0 n1 n2 n3 : Int} {o : List Ord} (hlen : o.length < 1000000) (hl : listTo s.pa 8 = [n0, n1, n2, n3]) (ho : (0 ≤ n ∧ n < 8) ∧ (0 ≤ psn ∧ psn ≤ 2147483647) ∧ (s.owner = n ∧ s.ops n.toNat = op ∧ s.wt = 3)) (h : MC 73 [] (wroteS s n) t o) : MC 32 [.int .i64 n, .int .i64 op, .int .i64 psn] s t (discs psn [n0, n1, n2, n3] ++ o) := by
  obtain ⟨cap, hcap, hN⟩ := h
  refine MC.mk (cap := INF) ?_
  cases o with
  | nil =>
    · by_cases h0 : ((n) : Int) ≥ (0)
      · by_cases h1 : ((n) : Int) < (8)
        · by_cases h2 : ((psn) : Int) < (0)
          · exact ab ho
          · by_cases h3 : ((psn) : Int) > (2147483647)
            · exact ab ho
            · by_cases h4 : ((s.owner) : Int) = (n)
              · by_cases h5 : ((s.ops n.toNat) : Int) = (op)
                · by_cases h6 : ((s.x) : Int) = (n)
                  · by_cases h7 : ((s.wt) : Int) = (3)
                    · simp only [wroteS, if_pos h6] at hN
                      exact pth (dg s ([iv n, iv op, iv psn, iv n0, iv n1, iv n2, iv n3, iv (s.ops n.toNat)] ++ tv t) [(lineV 1 s.line), pt 0 (18 + n.toNat), lineV 11 t.line] [encL s.line, encL t.line]) ⟨[kt .neq 31 (ch 0) (.slice none 0 0), kt .geq 3 (sv 40) (iv 0), kt .lss 3 (sv 40) (iv 8), kf .lss 2 (sv 42) (iv 0), kf .gtr 2 (sv 42) (iv 2147483647), kf .neq 3 (sv 1) (sv 40), kx 30 0 18 40 1, kf .neq 2 (sv 47) (sv 41), kf .neq 3 (sv 0) (sv 40), kt .eql 71 (sv 29) (iv 3)], [], [([2, 1000000], (eLd 1 11 [] 47))]⟩ [(52, [{ args := [.agg (v8 10)], c := 2, foots := [], news := [(2, .row 3 (.lst [sv 43, sv 44, sv 45, sv 46]) false)], res := .slice (some ⟨2, 0, none⟩) 4 INF }]), (73, [(eC0 [pt 0 0] 11 [(10, .bool false), (11, .bool false), (12, .bool false), (13, .bool false), (14, .bool false), (15, .bool false), (16, .bool false), (17, .bool false)] 48 2 1 0 1)])] ⟨asNeS u31 rfl, qT (n ≥ 0), qT (n < 8), qF (psn < 0), qF (psn > 2147483647), nF s.owner n, iA u30 z2 rfl rfl, nF ((s.ops n.toNat) : Int) op, nF s.x n, eT s.wt 3, trivial⟩ trivial ⟨ld (ld_ops s (lineV 1 s.line) 73 (q := n.toNat) (by omega)), trivial⟩ ⟨oe (toL52 (s.pa) (hl)), oe hN, trivial⟩ 2 (lockL []) (lockP ++ [sv 40, sv 41, sv 42]) [(0, 0), (11, 3), (10, 2)]
                    · exact ab ho
                  · by_cases h8 : ((s.wt) : Int) = (3)
                    · simp only [wroteS, if_neg h6] at hN
                      exact pth (dg s ([iv n, iv op, iv psn, iv n0, iv n1, iv n2, iv n3, iv (s.ops n.toNat)] ++ tv t) [(lineV 1 s.line), pt 0 (18 + n.toNat), lineV 11 t.line] [encL s.line, encL t.line]) ⟨[kt .neq 31 (ch 0) (.slice none 0 0), kt .geq 3 (sv 40) (iv 0), kt .lss 3 (sv 40) (iv 8), kf .lss 2 (sv 42) (iv 0), kf .gtr 2 (sv 42) (iv 2147483647), kf .neq 3 (sv 1) (sv 40), kx 30 0 18 40 1, kf .neq 2 (sv 47) (sv 41), kt .neq 3 (sv 0) (sv 40), kt .eql 71 (sv 29) (iv 3)], [], [([2, 1000000], (eLd 1 11 [] 47))]⟩ [(52, [{ args := [.agg (v8 10)], c := 2, foots := [], news := [(2, .row 3 (.lst [sv 43, sv 44, sv 45, sv 46]) false)], res := .slice (some ⟨2, 0, none⟩) 4 INF }]), (73, [(eC0 [pt 0 0] 11 [(1, iv (-1)), (10, .bool false), (11, .bool false), (12, .bool false), (13, .bool false), (14, .bool false), (15, .bool false), (16, .bool false), (17, .bool false)] 48 2 1 0 1)])] ⟨asNeS u31 rfl, qT (n ≥ 0), qT (n < 8), qF (psn < 0), qF (psn > 2147483647), nF s.owner n, iA u30 z2 rfl rfl, nF ((s.ops n.toNat) : Int) op, nT s.x n, eT s.wt 3, trivial⟩ trivial ⟨ld (ld_ops s (lineV 1 s.line) 73 (q := n.toNat) (by omega)), trivial⟩ ⟨oe (toL52 (s.pa) (hl)), oe hN, trivial⟩ 2 (lockL []) (lockP ++ [sv 40, sv 41, sv 42]) [(0, 0), (11, 3), (10, 2)]
                    · exact ab ho
                · exact ab ho
              · exact ab ho
        · exact ab ho
      · exact ab ho
  | cons x l =>
    · by_cases h0 : ((n) : Int) ≥ (0)
      · by_cases h1 : ((n) : Int) < (8)
        · by_cases h2 : ((psn) : Int) < (0)
          · exact ab ho
          · by_cases h3 : ((psn) : Int) > (2147483647)
            · exact ab ho
            · by_cases h4 : ((s.owner) : Int) = (n)
              · by_cases h5 : ((s.ops n.toNat) : Int) = (op)
                · by_cases h6 : ((s.x) : Int) = (n)
                  · by_cases h7 : ((s.wt) : Int) = (3)
                    · simp only [wroteS, if_pos h6] at hN
                      exact pth (dg s ([iv n, iv op, iv psn, iv n0, iv n1, iv n2, iv n3, iv (s.ops n.toNat)] ++ tv t) [(lineV 1 s.line), pt 0 (18 + n.toNat), lineV 11 t.line, .slice (some ⟨12, 0, none⟩) (x :: l).length cap, .slice (some ⟨13, 0, none⟩) ([⟨(6), (n0), (0), (0), (0), (psn)⟩, ⟨(6), (n1), (0), (0), (0), (psn)⟩, ⟨(6), (n2), (0), (0), (0), (psn)⟩, ⟨(6), (n3), (0), (0), (0), (psn)⟩] ++ x :: l : List Ord).length INF] [encL s.line, encL t.line, encOrds (x :: l), encOrds ([⟨(6), (n0), (0), (0), (0), (psn)⟩, ⟨(6), (n1), (0), (0), (0), (psn)⟩, ⟨(6), (n2), (0), (0), (0), (psn)⟩, ⟨(6), (n3), (0), (0), (0), (psn)⟩] ++ x :: l)]) ⟨[kt .neq 31 (ch 0) (.slice none 0 0), kt .geq 3 (sv 40) (iv 0), kt .lss 3 (sv 40) (iv 8), kf .lss 2 (sv 42) (iv 0), kf .gtr 2 (sv 42) (iv 2147483647), kf .neq 3 (sv 1) (sv 40), kx 30 0 18 40 1, kf .neq 2 (sv 47) (sv 41), kf .neq 3 (sv 0) (sv 40), kt .eql 71 (sv 29) (iv 3)], [], [([2, 1000000], (eLd 1 11 [] 47)), ([28, 28], { args := [.slice (some ⟨10, 0, none⟩) 4 INF, ch 3], c := 13, foots := [⟨10, 0, false, .row 45 (.lst [iv 6, sv 43, iv 0, iv 0, iv 0, sv 42, iv 6, sv 44, iv 0, iv 0, iv 0, sv 42, iv 6, sv 45, iv 0, iv 0, iv 0, sv 42, iv 6, sv 46, iv 0, iv 0, iv 0, sv 42]) false, .dead⟩, ⟨12, 1, true, .orow 45 2 false, .dead⟩], news := [(2, .orow 45 3 false)], res := ch 4 })]⟩ [(52, [{ args := [.agg (v8 10)], c := 2, foots := [], news := [(2, .row 3 (.lst [sv 43, sv 44, sv 45, sv 46]) false)], res := .slice (some ⟨2, 0, none⟩) 4 INF }]), (73, [(eC1 [pt 0 0] 11 [(10, .bool false), (11, .bool false), (12, .bool false), (13, .bool false), (14, .bool false), (15, .bool false), (16, .bool false), (17, .bool false)] 48 2 1 0 1 2 (ch 3))])] ⟨asNeS u31 rfl, qT (n ≥ 0), qT (n < 8), qF (psn < 0), qF (psn > 2147483647), nF s.owner n, iA u30 z2 rfl rfl, nF ((s.ops n.toNat) : Int) op, nF s.x n, eT s.wt 3, trivial⟩ trivial ⟨ld (ld_ops s (lineV 1 s.line) 73 (q := n.toNat) (by omega)), ap (app_ords_inf [⟨(6), (n0), (0), (0), (0), (psn)⟩, ⟨(6), (n1), (0), (0), (0), (psn)⟩, ⟨(6), (n2), (0), (0), (0), (psn)⟩, ⟨(6), (n3), (0), (0), (0), (psn)⟩] x l cap (by simp) hlen), trivial⟩ ⟨oe (toL52 (s.pa) (hl)), oe hN, trivial⟩ 2 (lockL []) (lockP ++ [sv 40, sv 41, sv 42]) [(0, 0), (11, 3), (13, 2)]
                    · exact ab ho
                  · by_cases h8 : ((s.wt) : Int) = (3)
                    · simp only [wroteS, if_neg h6] at hN
                      exact pth (dg s ([iv n, iv op, iv psn, iv n0, iv n1, iv n2, iv n3, iv (s.ops n.toNat)] ++ tv t) [(lineV 1 s.line), pt 0 (18 + n.toNat), lineV 11 t.line, .slice (some ⟨12, 0, none⟩) (x :: l).length cap, .slice (some ⟨13, 0, none⟩) ([⟨(6), (n0), (0), (0), (0), (psn)⟩, ⟨(6), (n1), (0), (0), (0), (psn)⟩, ⟨(6), (n2), (0), (0), (0), (psn)⟩, ⟨(6), (n3), (0), (0), (0), (psn)⟩] ++ x :: l : List Ord).length INF] [encL s.line, encL t.line, encOrds (x :: l), encOrds ([⟨(6), (n0), (0), (0), (0), (psn)⟩, ⟨(6), (n1), (0), (0), (0), (psn)⟩, ⟨(6), (n2), (0), (0), (0), (psn)⟩, ⟨(6), (n3), (0), (0), (0), (psn)⟩] ++ x :: l)]) ⟨[kt .neq 31 (ch 0) (.slice none 0 0), kt .geq 3 (sv 40) (iv 0), kt .lss 3 (sv 40) (iv 8), kf .lss 2 (sv 42) (iv 0), kf .gtr 2 (sv 42) (iv 2147483647), kf .neq 3 (sv 1) (sv 40), kx 30 0 18 40 1, kf .neq 2 (sv 47) (sv 41), kt .neq 3 (sv 0) (sv 40), kt .eql 71 (sv 29) (iv 3)], [], [([2, 1000000], (eLd 1 11 [] 47)), ([28, 28], { args := [.slice (some ⟨10, 0, none⟩) 4 INF, ch 3], c := 13, foots := [⟨10, 0, false, .row 45 (.lst [iv 6, sv 43, iv 0, iv 0, iv 0, sv 42, iv 6, sv 44, iv 0, iv 0, iv 0, sv 42, iv 6, sv 45, iv 0, iv 0, iv 0, sv 42, iv 6, sv 46, iv 0, iv 0, iv 0, sv 42]) false, .dead⟩, ⟨12, 1, true, .orow 45 2 false, .dead⟩], news := [(2, .orow 45 3 false)], res := ch 4 })]⟩ [(52, [{ args := [.agg (v8 10)], c := 2, foots := [], news := [(2, .row 3 (.lst [sv 43, sv 44, sv 45, sv 46]) false)], res := .slice (some ⟨2, 0, none⟩) 4 INF }]), (73, [(eC1 [pt 0 0] 11 [(1, iv (-1)), (10, .bool false), (11, .bool false), (12, .bool false), (13, .bool false), (14, .bool false), (15, .bool false), (16, .bool false), (17, .bool false)] 48 2 1 0 1 2 (ch 3))])] ⟨asNeS u31 rfl, qT (n ≥ 0), qT (n < 8), qF (psn < 0), qF (psn > 2147483647), nF s.owner n, iA u30 z2 rfl rfl, nF ((s.ops n.toNat) : Int) op, nT s.x n, eT s.wt 3, trivial⟩ trivial ⟨ld (ld_ops s (lineV 1 s.line) 73 (q := n.toNat) (by omega)), ap (app_ords_inf [⟨(6), (n0), (0), (0), (0), (psn)⟩, ⟨(6), (n1), (0), (0), (0), (psn)⟩, ⟨(6), (n2), (0), (0), (0), (psn)⟩, ⟨(6), (n3), (0), (0), (0), (psn)⟩] x l cap (by simp) hlen), trivial⟩ ⟨oe (toL52 (s.pa) (hl)), oe hN, trivial⟩ 2 (lockL []) (lockP ++ [sv 40, sv 41, sv 42]) [(0, 0), (11, 3), (13, 2)]
                    · exact ab ho
                · exact ab ho
              · exact ab ho
        · exact ab ho
      · exact ab ho
theorem wrote_t5 {s : St} {n op psn : Int} {n0 n1 n2 n3 n4 : Int} (hl : listTo s.pa 8 = [n0, n1, n2, n3, n4]) (ho : (0 ≤ n ∧ n < 8) ∧ (0 ≤ psn ∧ psn ≤ 2147483647) ∧ ¬ (s.owner = n ∧ s.ops n.toNat = op ∧ s.wt = 3)) : MC 32 [.int .i64 n, .int .i64 op, .int .i64 psn] s (wroteT s n op) (discs psn [n0, n1, n2, n3, n4]) := by
  refine MC.mk (cap := INF) ?_
  · by_cases h0 : ((n) : Int) ≥ (0)
    · by_cases h1 : ((n) : Int) < (8)
      · by_cases h2 : ((psn) : Int) < (0)
        · exact ab ho
        · by_cases h3 : ((psn) : Int) > (2147483647)
          · exact ab ho
          · by_cases h4 : ((s.owner) : Int) = (n)
            · by_cases h5 : ((s.ops n.toNat) : Int) = (op)
              · by_cases h6 : ((s.x) : Int) = (n)
                · by_cases h7 : ((s.wt) : Int) = (3)
                  · exact ab ho
                  · simp only [wroteT, wroteS, if_pos h4, if_pos h5, if_pos h6]
                    exact pth (dg s [iv n, iv op, iv psn, iv n0, iv n1, iv n2, iv n3, iv n4, iv (s.ops n.toNat)] [(lineV 1 s.line), pt 0 (18 + n.toNat)] [encL s.line]) ⟨[kt .neq 31 (ch 0) (.slice none 0 0), kt .geq 3 (sv 40) (iv 0), kt .lss 3 (sv 40) (iv 8), kf .lss 2 (sv 42) (iv 0), kf .gtr 2 (sv 42) (iv 2147483647), kf .neq 3 (sv 1) (sv 40), kx 30 0 18 40 1, kf .neq 2 (sv 48) (sv 41), kf .neq 3 (sv 0) (sv 40), kf .eql 71 (sv 29) (iv 3)], [], [([2, 1000000], (eLd 1 13 [] 48))]⟩ [(52, [{ args := [.agg (v8 10)], c := 2, foots := [], news := [(2, .row 3 (.lst [sv 43, sv 44, sv 45, sv 46, sv 47]) false)], res := .slice (some ⟨2, 0, none⟩) 5 INF }])] ⟨asNeS u31 rfl, qT (n ≥ 0), qT (n < 8), qF (psn < 0), qF (psn > 2147483647), nF s.owner n, iA u30 z2 rfl rfl, nF ((s.ops n.toNat) : Int) op, nF s.x n, eF s.wt 3, trivial⟩ trivial ⟨ld (ld_ops s (lineV 1 s.line) 73 (q := n.toNat) (by omega)), trivial⟩ ⟨oe (toL52 (s.pa) (hl)), trivial⟩ 2 (lockL []) (lockP ++ [sv 40, sv 41, sv 42]) [(0, 0), (1, 3), (12, 2)]
                · by_cases h8 : ((s.wt) : Int) = (3)
                  · exact ab ho
                  · simp only [wroteT, wroteS, if_pos h4, if_pos h5, if_neg h6]
                    exact pth (dg s [iv n, iv op, iv psn, iv n0, iv n1, iv n2, iv n3, iv n4, iv (s.ops n.toNat)] [(lineV 1 s.line), pt 0 (18 + n.toNat)] [encL s.line]) ⟨[kt .neq 31 (ch 0) (.slice none 0 0), kt .geq 3 (sv 40) (iv 0), kt .lss 3 (sv 40) (iv 8), kf .lss 2 (sv 42) (iv 0), kf .gtr 2 (sv 42) (iv 2147483647), kf .neq 3 (sv 1) (sv 40), kx 30 0 18 40 1, kf .neq 2 (sv 48) (sv 41), kt .neq 3 (sv 0) (sv 40), kf .eql 71 (sv 29) (iv 3)], [], [([2, 1000000], (eLd 1 13 [] 48))]⟩ [(52, [{ args := [.agg (v8 10)], c := 2, foots := [], news := [(2, .row 3 (.lst [sv 43, sv 44, sv 45, sv 46, sv 47]) false)], res := .slice (some ⟨2, 0, none⟩) 5 INF }])] ⟨asNeS u31 rfl, qT (n ≥ 0), qT (n < 8), qF (psn < 0), qF (psn > 2147483647), nF s.owner n, iA u30 z2 rfl rfl, nF ((s.ops n.toNat) : Int) op, nT s.x n, eF s.wt 3, trivial⟩ trivial ⟨ld (ld_ops s (lineV 1 s.line) 73 (q := n.toNat) (by omega)), trivial⟩ ⟨oe (toL52 (s.pa) (hl)), trivial⟩ 2 (lockL []) (lockP ++ [sv 40, sv 41, sv 42]) [(0, 0), (1, 3), (12, 2)]
              · simp only [wroteT, wroteS, if_pos h4, if_neg h5]
                exact pth (dg s [iv n, iv op, iv psn, iv n0, iv n1, iv n2, iv n3, iv n4, iv (s.ops n.toNat)] [(lineV 1 s.line), pt 0 (18 + n.toNat)] [encL s.line]) ⟨[kt .neq 31 (ch 0) (.slice none 0 0), kt .geq 3 (sv 40) (iv 0), kt .lss 3 (sv 40) (iv 8), kf .lss 2 (sv 42) (iv 0), kf .gtr 2 (sv 42) (iv 2147483647), kf .neq 3 (sv 1) (sv 40), kx 30 0 18 40 1, kt .neq 2 (sv 48) (sv 41)], [], [([2, 1000000], (eLd 1 13 [] 48))]⟩ [(52, [{ args := [.agg (v8 10)], c := 2, foots := [], news := [(2, .row 3 (.lst [sv 43, sv 44, sv 45, sv 46, sv 47]) false)], res := .slice (some ⟨2, 0, none⟩) 5 INF }])] ⟨asNeS u31 rfl, qT (n ≥ 0), qT (n < 8), qF (psn < 0), qF (psn > 2147483647), nF s.owner n, iA u30 z2 rfl rfl, nT ((s.ops n.toNat) : Int) op, trivial⟩ trivial ⟨ld (ld_ops s (lineV 1 s.line) 73 (q := n.toNat) (by omega)), trivial⟩ ⟨oe (toL52 (s.pa) (hl)), trivial⟩ 2 (lockL []) (lockP ++ [sv 40, sv 41, sv 42]) [(0, 0), (1, 3), (12, 2)]
            · simp only [wroteT, wroteS, if_neg h4]
              exact pth (dg s [iv n, iv op, iv psn, iv n0, iv n1, iv n2, iv n3, iv n4] [(lineV 1 s.line)] [encL s.line]) ⟨[kt .neq 31 (ch 0) (.slice none 0 0), kt .geq 3 (sv 40) (iv 0), kt .lss 3 (sv 40) (iv 8), kf .lss 2 (sv 42) (iv 0), kf .gtr 2 (sv 42) (iv 2147483647), kt .neq 3 (sv 1) (sv 40)], [], []⟩ [(52, [{ args := [.agg (v8 10)], c := 2, foots := [], news := [(2, .row 3 (.lst [sv 43, sv 44, sv 45, sv 46, sv 47]) false)], res := .slice (some ⟨2, 0, none⟩) 5 INF }])] ⟨asNeS u31 rfl, qT (n ≥ 0), qT (n < 8), qF (psn < 0), qF (psn > 2147483647), nT s.owner n, trivial⟩ trivial trivial ⟨oe (toL52 (s.pa) (hl)), trivial⟩ 2 (lockL []) (lockP ++ [sv 40, sv 41, sv 42]) [(0, 0), (1, 3), (12, 2)]
      · exact ab ho
    · exact ab ho
theorem wrote_w5 {s t : St} {n op psn : Int} {n0 n1 n2 n3 n4 : Int} {o : List Ord} (hlen : o.length < 1000000) (hl : listTo s.pa 8 = [n0, n1, n2, n3, n4]) (ho : (0 ≤ n ∧ n < 8) ∧ (0 ≤ psn ∧ psn ≤ 2147483647) ∧ (s.owner = n ∧ s.ops n.toNat = op ∧ s.wt = 3)) (h : MC 73 [] (wroteS s n) t o) : MC 32 [.int .i64 n, .int .i64 op, .int .i64 psn] s t (discs psn [n0, n1, n2, n3, n4] ++ o) := by
  obtain ⟨cap, hcap, hN⟩ := h
  refine MC.mk (cap := INF) ?_
  cases o with
  | nil =>
    · by_cases h0 : ((n) : Int) ≥ (0)
      · by_cases h1 : ((n) : Int) < (8)
        · by_cases h2 : ((psn) : Int) < (0)
          · exact ab ho
          · by_cases h3 : ((psn) : Int) > (2147483647)
            · exact ab ho
            · by_cases h4 : ((s.owner) : Int) = (n)
              · by_cases h5 : ((s.ops n.toNat) : Int) = (op)
                · by_cases h6 : ((s.x) : Int) = (n)
                  · by_cases h7 : ((s.wt) : Int) = (3)
                    · simp only [wroteS, if_pos h6] at hN
                      exact pth (dg s ([iv n, iv op, iv psn, iv n0, iv n1, iv n2, iv n3, iv n4, iv (s.ops n.toNat)] ++ tv t) [(lineV 1 s.line), pt 0 (18 + n.toNat), lineV 13 t.line] [encL s.line, encL t.line]) ⟨[kt .neq 31 (ch 0) (.slice none 0 0), kt .geq 3 (sv 40) (iv 0), kt .lss 3 (sv 40) (iv 8), kf .lss 2 (sv 42) (iv 0), kf .gtr 2 (sv 42) (iv 2147483647), kf .neq 3 (sv 1) (sv 40), kx 30 0 18 40 1, kf .neq 2 (sv 48) (sv 41), kf .neq 3 (sv 0) (sv 40), kt .eql 71 (sv 29) (iv 3)], [], [([2, 1000000], (eLd 1 13 [] 48))]⟩ [(52, [{ args := [.agg (v8 10)], c := 2, foots := [], news := [(2, .row 3 (.lst [sv 43, sv 44, sv 45, sv 46, sv 47]) false)], res := .slice (some ⟨2, 0, none⟩) 5 INF }]), (73, [(eC0 [pt 0 0] 13 [(10, .bool false), (11, .bool false), (12, .bool false), (13, .bool false), (14, .bool false), (15, .bool false), (16, .bool false), (17, .bool false)] 49 2 1 0 1)])] ⟨asNeS u31 rfl, qT (n ≥ 0), qT (n < 8), qF (psn < 0), qF (psn > 2147483647), nF s.owner n, iA u30 z2 rfl rfl, nF ((s.ops n.toNat) : Int) op, nF s.x n, eT s.wt 3, trivial⟩ trivial ⟨ld (ld_ops s (lineV 1 s.line) 73 (q := n.toNat) (by omega)), trivial⟩ ⟨oe (toL52 (s.pa) (hl)), oe hN, trivial⟩ 2 (lockL []) (lockP ++ [sv 40, sv 41, sv 42]) [(0, 0), (13, 3), (12, 2)]
                    · exact ab ho
                  · by_cases h8 : ((s.wt) : Int) = (3)
                    · simp only [wroteS, if_neg h6] at hN
                      exact pth (dg s ([iv n, iv op, iv psn, iv n0, iv n1, iv n2, iv n3, iv n4, iv (s.ops n.toNat)] ++ tv t) [(lineV 1 s.line), pt 0 (18 + n.toNat), lineV 13 t.line] [encL s.line, encL t.line]) ⟨[kt .neq 31 (ch 0) (.slice none 0 0), kt .geq 3 (sv 40) (iv 0), kt .lss 3 (sv 40) (iv 8), kf .lss 2 (sv 42) (iv 0), kf .gtr 2 (sv 42) (iv 2147483647), kf .neq 3 (sv 1) (sv 40), kx 30 0 18 40 1, kf .neq 2 (sv 48) (sv 41), kt .neq 3 (sv 0) (sv 40), kt .eql 71 (sv 29) (iv 3)], [], [([2, 1000000], (eLd 1 13 [] 48))]⟩ [(52, [{ args := [.agg (v8 10)], c := 2, foots := [], news := [(2, .row 3 (.lst [sv 43, sv 44, sv 45, sv 46, sv 47]) false)], res := .slice (some ⟨2, 0, none⟩) 5 INF }]), (73, [(eC0 [pt 0 0] 13 [(1, iv (-1)), (10, .bool false), (11, .bool false), (12, .bool false), (13, .bool false), (14, .bool false), (15, .bool false), (16, .bool false), (17, .bool false)] 49 2 1 0 1)])] ⟨asNeS u31 rfl, qT (n ≥ 0), qT (n < 8), qF (psn < 0), qF (psn > 2147483647), nF s.owner n, iA u30 z2 rfl rfl, nF ((s.ops n.toNat) : Int) op, nT s.x n, eT s.wt 3, trivial⟩ trivial ⟨ld (ld_ops s (lineV 1 s.line) 73 (q := n.toNat) (by omega)), trivial⟩ ⟨oe (toL52 (s.pa) (hl)), oe hN, trivial⟩ 2 (lockL []) (lockP ++ [sv 40, sv 41, sv 42]) [(0, 0), (13, 3), (12, 2)]
                    · exact ab ho
                · exact ab ho
              · exact ab ho
        · exact ab ho
      · exact ab ho
  | cons x l =>
    · by_cases h0 : ((n) : Int) ≥ (0)
      · by_cases h1 : ((n) : Int) < (8)
        · by_cases h2 : ((psn) : Int) < (0)
          · exact ab ho
          · by_cases h3 : ((psn) : Int) > (2147483647)
            · exact ab ho
            · by_cases h4 : ((s.owner) : Int) = (n)
              · by_cases h5 : ((s.ops n.toNat) : Int) = (op)
                · by_cases h6 : ((s.x) : Int) = (n)
                  · by_cases h7 : ((s.wt) : Int) = (3)
                    · simp only [wroteS, if_pos h6] at hN
                      exact pth (dg s ([iv n, iv op, iv psn, iv n0, iv n1, iv n2, iv n3, iv n4, iv (s.ops n.toNat)] ++ tv t) [(lineV 1 s.line), pt 0 (18 + n.toNat), lineV 13 t.line, .slice (some ⟨14, 0, none⟩) (x :: l).length cap, .slice (some ⟨15, 0, none⟩) ([⟨(6), (n0), (0), (0), (0), (psn)⟩, ⟨(6), (n1), (0), (0), (0), (psn)⟩, ⟨(6), (n2), (0), (0), (0), (psn)⟩, ⟨(6), (n3), (0), (0), (0), (psn)⟩, ⟨(6), (n4), (0), (0), (0), (psn)⟩] ++ x :: l : List Ord).length INF] [encL s.line, encL t.line, encOrds (x :: l), encOrds ([⟨(6), (n0), (0), (0), (0), (psn)⟩, ⟨(6), (n1), (0), (0), (0), (psn)⟩, ⟨(6), (n2), (0), (0), (0), (psn)⟩, ⟨(6), (n3), (0), (0), (0), (psn)⟩, ⟨(6), (n4), (0), (0), (0), (psn)⟩] ++ x :: l)]) ⟨[kt .neq 31 (ch 0) (.slice none 0 0), kt .geq 3 (sv 40) (iv 0), kt .lss 3 (sv 40) (iv 8), kf .lss 2 (sv 42) (iv 0), kf .gtr 2 (sv 42) (iv 2147483647), kf .neq 3 (sv 1) (sv 40), kx 30 0 18 40 1, kf .neq 2 (sv 48) (sv 41), kf .neq 3 (sv 0) (sv 40), kt .eql 71 (sv 29) (iv 3)], [], [([2, 1000000], (eLd 1 13 [] 48)), ([28, 28], { args := [.slice (some ⟨12, 0, none⟩) 5 INF, ch 3], c := 15, foots := [⟨12, 0, false, .row 45 (.lst [iv 6, sv 43, iv 0, iv 0, iv 0, sv 42, iv 6, sv 44, iv 0, iv 0, iv 0, sv 42, iv 6, sv 45, iv 0, iv 0, iv 0, sv 42, iv 6, sv 46, iv 0, iv 0, iv 0, sv 42, iv 6, sv 47, iv 0, iv 0, iv 0, sv 42]) false, .dead⟩, ⟨14, 1, true, .orow 45 2 false, .dead⟩], news := [(2, .orow 45 3 false)], res := ch 4 })]⟩ [(52, [{ args := [.agg (v8 10)], c := 2, foots := [], news := [(2, .row 3 (.lst [sv 43, sv 44, sv 45, sv 46, sv 47]) false)], res := .slice (some ⟨2, 0, none⟩) 5 INF }]), (73, [(eC1 [pt 0 0] 13 [(10, .bool false), (11, .bool false), (12, .bool false), (13, .bool false), (14, .bool false), (15, .bool false), (16, .bool false), (17, .bool false)] 49 2 1 0 1 2 (ch 3))])] ⟨asNeS u31 rfl, qT (n ≥ 0), qT (n < 8), qF (psn < 0), qF (psn > 2147483647), nF s.owner n, iA u30 z2 rfl rfl, nF ((s.ops n.toNat) : Int) op, nF s.x n, eT s.wt 3, trivial⟩ trivial ⟨ld (ld_ops s (lineV 1 s.line) 73 (q := n.toNat) (by omega)), ap (app_ords_inf [⟨(6), (n0), (0), (0), (0), (psn)⟩, ⟨(6), (n1), (0), (0), (0), (psn)⟩, ⟨(6), (n2), (0), (0), (0), (psn)⟩, ⟨(6), (n3), (0), (0), (0), (psn)⟩, ⟨(6), (n4), (0), (0), (0), (psn)⟩] x l cap (by simp) hlen), trivial⟩ ⟨oe (toL52 (s.pa) (hl)), oe hN, trivial⟩ 2 (lockL []) (lockP ++ [sv 40, sv 41, sv 42]) [(0, 0), (13, 3), (15, 2)]
                    · exact ab ho
                  · by_cases h8 : ((s.wt) : Int) = (3)
                    · simp only [wroteS, if_neg h6] at hN
                      exact pth (dg s ([iv n, iv op, iv psn, iv n0, iv n1, iv n2, iv n3, iv n4, iv (s.ops n.toNat)] ++ tv t) [(lineV 1 s.line), pt 0 (18 + n.toNat), lineV 13 t.line, .slice (some ⟨14, 0, none⟩) (x :: l).length cap, .slice (some ⟨15, 0, none⟩) ([⟨(6), (n0), (0), (0), (0), (psn)⟩, ⟨(6), (n1), (0), (0), (0), (psn)⟩, ⟨(6), (n2), (0), (0), (0), (psn)⟩, ⟨(6), (n3), (0), (0), (0), (psn)⟩, ⟨(6), (n4), (0), (0), (0), (psn)⟩] ++ x :: l : List Ord).length INF] [encL s.line, encL t.line, encOrds (x :: l), encOrds ([⟨(6), (n0), (0), (0), (0), (psn)⟩, ⟨(6), (n1), (0), (0), (0), (psn)⟩, ⟨(6), (n2), (0), (0), (0), (psn)⟩, ⟨(6), (n3), (0), (0), (0), (psn)⟩, ⟨(6), (n4), (0), (0), (0), (psn)⟩] ++ x :: l)]) ⟨[kt .neq 31 (ch 0) (.slice none 0 0), kt .geq 3 (sv 40) (iv 0), kt .lss 3 (sv 40) (iv 8), kf .lss 2 (sv 42) (iv 0), kf .gtr 2 (sv 42) (iv 2147483647), kf .neq 3 (sv 1) (sv 40), kx 30 0 18 40 1, kf .neq 2 (sv 48) (sv 41), kt .neq 3 (sv 0) (sv 40), kt .eql 71 (sv 29) (iv 3)], [], [([2, 1000000], (eLd 1 13 [] 48)), ([28, 28], { args := [.slice (some ⟨12, 0, none⟩) 5 INF, ch 3], c := 15, foots := [⟨12, 0, false, .row 45 (.lst [iv 6, sv 43, iv 0, iv 0, iv 0, sv 42, iv 6, sv 44, iv 0, iv 0, iv 0, sv 42, iv 6, sv 45, iv 0, iv 0, iv 0, sv 42, iv 6, sv 46, iv 0, iv 0, iv 0, sv 42, iv 6, sv 47, iv 0, iv 0, iv 0, sv 42]) false, .dead⟩, ⟨14, 1, true, .orow 45 2 false, .dead⟩], news := [(2, .orow 45 3 false)], res := ch 4 })]⟩ [(52, [{ args := [.agg (v8 10)], c := 2, foots := [], news := [(2, .row 3 (.lst [sv 43, sv 44, sv 45, sv 46, sv 47]) false)], res := .slice (some ⟨2, 0, none⟩) 5 INF }]), (73, [(eC1 [pt 0 0] 13 [(1, iv (-1)), (10, .bool false), (11, .bool false), (12, .bool false), (13, .bool false), (14, .bool false), (15, .bool false), (16, .bool false), (17, .bool false)] 49 2 1 0 1 2 (ch 3))])] ⟨asNeS u31 rfl, qT (n ≥ 0), qT (n < 8), qF (psn < 0), qF (psn > 2147483647), nF s.owner n, iA u30 z2 rfl rfl, nF ((s.ops n.toNat) : Int) op, nT s.x n, eT s.wt 3, trivial⟩ trivial ⟨ld (ld_ops s (lineV 1 s.line) 73 (q := n.toNat) (by omega)), ap (app_ords_inf [⟨(6), (n0), (0), (0), (0), (psn)⟩, ⟨(6), (n1), (0), (0), (0), (psn)⟩, ⟨(6), (n2), (0), (0), (0), (psn)⟩, ⟨(6), (n3), (0), (0), (0), (psn)⟩, ⟨(6), (n4), (0), (0), (0), (psn)⟩] x l cap (by simp) hlen), trivial⟩ ⟨oe (toL52 (s.pa) (hl)), oe hN, trivial⟩ 2 (lockL []) (lockP ++ [sv 40, sv 41, sv 42]) [(0, 0), (13, 3), (15, 2)]
                    · exact ab ho
                · exact ab ho
              · exact ab ho
        · exact ab ho
      · exact ab ho
theorem wrote_t6 {s : St} {n op psn : Int} {n0 n1 n2 n3 n4 n5 : Int} (hl : listTo s.pa 8 = [n0, n1, n2, n3, n4, n5]) (ho : (0 ≤ n ∧ n < 8) ∧ (0 ≤ psn ∧ psn ≤ 2147483647) ∧ ¬ (s.owner = n ∧ s.ops n.toNat = op ∧ s.wt = 3)) : MC 32 [.int .i64 n, .int .i64 op, .int .i64 psn] s (wroteT s n op) (discs psn [n0, n1, n2, n3, n4, n5]) := by
  refine MC.mk (cap := INF) ?_
  · by_cases h0 : ((n) : Int) ≥ (0)
    · by_cases h1 : ((n) : Int) < (8)
      · by_cases h2 : ((psn) : Int) < (0)
        · exact ab ho
        · by_cases h3 : ((psn) : Int) > (2147483647)
          · exact ab ho
          · by_cases h4 : ((s.owner) : Int) = (n)
            · by_cases h5 : ((s.ops n.toNat) : Int) = (op)
              · by_cases h6 : ((s.x) : Int) = (n)
                · by_cases h7 : ((s.wt) : Int) = (3)
                  · exact ab ho
                  · simp only [wroteT, wroteS, if_pos h4, if_pos h5, if_pos h6]
                    exact pth (dg s [iv n, iv op, iv psn, iv n0, iv n1, iv n2, iv n3, iv n4, iv n5, iv (s.ops n.toNat)] [(lineV 1 s.line), pt 0 (18 + n.toNat)] [encL s.line]) ⟨[kt .neq 31 (ch 0) (.slice none 0 0), kt .geq 3 (sv 40) (iv 0), kt .lss 3 (sv 40) (iv 8), kf .lss 2 (sv 42) (iv 0), kf .gtr 2 (sv 42) (iv 2147483647), kf .neq 3 (sv 1) (sv 40), kx 30 0 18 40 1, kf .neq 2 (sv 49) (sv 41), kf .neq 3 (sv 0) (sv 40), kf .eql 71 (sv 29) (iv 3)], [], [([2, 1000000], (eLd 1 15 [] 49))]⟩ [(52, [{ args := [.agg (v8 10)], c := 2, foots := [], news := [(2, .row 3 (.lst [sv 43, sv 44, sv 45, sv 46, sv 47, sv 48]) false)], res := .slice (some ⟨2, 0, none⟩) 6 INF }])] ⟨asNeS u31 rfl, qT (n ≥ 0), qT (n < 8), qF (psn < 0), qF (psn > 2147483647), nF s.owner n, iA u30 z2 rfl rfl, nF ((s.ops n.toNat) : Int) op, nF s.x n, eF s.wt 3, trivial⟩ trivial ⟨ld (ld_ops s (lineV 1 s.line) 73 (q := n.toNat) (by omega)), trivial⟩ ⟨oe (toL52 (s.pa) (hl)), trivial⟩ 2 (lockL []) (lockP ++ [sv 40, sv 41, sv 42]) [(0, 0), (1, 3), (14, 2)]
                · by_cases h8 : ((s.wt) : Int) = (3)
                  · exact ab ho
                  · simp only [wroteT, wroteS, if_pos h4, if_pos h5, if_neg h6]
                    exact pth (dg s [iv n, iv op, iv psn, iv n0, iv n1, iv n2, iv n3, iv n4, iv n5, iv (s.ops n.toNat)] [(lineV 1 s.line), pt 0 (18 + n.toNat)] [encL s.line]) ⟨[kt .neq 31 (ch 0) (.slice none 0 0), kt .geq 3 (sv 40) (iv 0), kt .lss 3 (sv 40) (iv 8), kf .lss 2 (sv 42) (iv 0), kf .gtr 2 (sv 42) (iv 2147483647), kf .neq 3 (sv 1) (sv 40), kx 30 0 18 40 1, kf .neq 2 (sv 49) (sv 41), kt .neq 3 (sv 0) (sv 40), kf .eql 71 (sv 29) (iv 3)], [], [([2, 1000000], (eLd 1 15 [] 49))]⟩ [(52, [{ args := [.agg (v8 10)], c := 2, foots := [], news := [(2, .row 3 (.lst [sv 43, sv 44, sv 45, sv 46, sv 47, sv 48]) false)], res := .slice (some ⟨2, 0, none⟩) 6 INF }])] ⟨asNeS u31 rfl, qT (n ≥ 0), qT (n < 8), qF (psn < 0), qF (psn > 2147483647), nF s.owner n, iA u30 z2 rfl rfl, nF ((s.ops n.toNat) : Int) op, nT s.x n, eF s.wt 3, trivial⟩ trivial ⟨ld (ld_ops s (lineV 1 s.line) 73 (q := n.toNat) (by omega)), trivial⟩ ⟨oe (toL52 (s.pa) (hl)), trivial⟩ 2 (lockL []) (lockP ++ [sv 40, sv 41, sv 42]) [(0, 0), (1, 3), (14, 2)]
              · simp only [wroteT, wroteS, if_pos h4, if_neg h5]
                exact pth (dg s [iv n, iv op, iv psn, iv n0, iv n1, iv n2, iv n3, iv n4, iv n5, iv (s.ops n.toNat)] [(lineV 1 s.line), pt 0 (18 + n.toNat)] [encL s.line]) ⟨[kt .neq 31 (ch 0) (.slice none 0 0), kt .geq 3 (sv 40) (iv 0), kt .lss 3 (sv 40) (iv 8), kf .lss 2 (sv 42) (iv 0), kf .gtr 2 (sv 42) (iv 2147483647), kf .neq 3 (sv 1) (sv 40), kx 30 0 18 40 1, kt .neq 2 (sv 49) (sv 41)], [], [([2, 1000000], (eLd 1 15 [] 49))]⟩ [(52, [{ args := [.agg (v8 10)], c := 2, foots := [], news := [(2, .row 3 (.lst [sv 43, sv 44, sv 45, sv 46, sv 47, sv 48]) false)], res := .slice (some ⟨2, 0, none⟩) 6 INF }])] ⟨asNeS u31 rfl, qT (n ≥ 0), qT (n < 8), qF (psn < 0), qF (psn > 2147483647), nF s.owner n, iA u30 z2 rfl rfl, nT ((s.ops n.toNat) : Int) op, trivial⟩ trivial ⟨ld (ld_ops s (lineV 1 s.line) 73 (q := n.toNat) (by omega)), trivial⟩ ⟨oe (toL52 (s.pa) (hl)), trivial⟩ 2 (lockL []) (lockP ++ [sv 40, sv 41, sv 42]) [(0, 0), (1, 3), (14, 2)]
            · simp only [wroteT, wroteS, if_neg h4]
              exact pth (dg s [iv n, iv op, iv psn, iv n0, iv n1, iv n2, iv n3, iv n4, iv n5] [(lineV 1 s.line)] [encL s.line]) ⟨[kt .neq 31 (ch 0) (.slice none 0 0), kt .geq 3 (sv 40) (iv 0), kt .lss 3 (sv 40) (iv 8), kf .lss 2 (sv 42) (iv 0), kf .gtr 2 (sv 42) (iv 2147483647), kt .neq 3 (sv 1) (sv 40)], [], []⟩ [(52, [{ args := [.agg (v8 10)], c := 2, foots := [], news := [(2, .row 3 (.lst [sv 43, sv 44, sv 45, sv 46, sv 47, sv 48]) false)], res := .slice (some ⟨2, 0, none⟩) 6 INF }])] ⟨asNeS u31 rfl, qT (n ≥ 0), qT (n < 8), qF (psn < 0), qF (psn > 2147483647), nT s.owner n, trivial⟩ trivial trivial ⟨oe (toL52 (s.pa) (hl)), trivial⟩ 2 (lockL []) (lockP ++ [sv 40, sv 41, sv 42]) [(0, 0), (1, 3), (14, 2)]
      · exact ab ho
    · exact ab ho
theorem wrote_w6 {s t : St} {n op psn : Int} {n0 n1 n2 n3 n4 n5 : Int} {o : List Ord} (hlen : o.length < 1000000) (hl : listTo s.pa 8 = [n0, n1, n2, n3, n4, n5]) (ho : (0 ≤ n ∧ n < 8) ∧ (0 ≤ psn ∧ psn ≤ 2147483647) ∧ (s.owner = n ∧ s.ops n.toNat = op ∧ s.wt = 3)) (h : MC 73 [] (wroteS s n) t o) : MC 32 [.int .i64 n, .int .i64 op, .int .i64 psn] s t (discs psn [n0, n1, n2, n3, n4, n5] ++ o) := by
  obtain ⟨cap, hcap, hN⟩ := h
  refine MC.mk (cap := INF) ?_
  cases o with
  | nil =>
    · by_cases h0 : ((n) : Int) ≥ (0)
      · by_cases h1 : ((n) : Int) < (8)
        · by_cases h2 : ((psn) : Int) < (0)
          · exact ab ho
          · by_cases h3 : ((psn) : Int) > (2147483647)
            · exact ab ho
            · by_cases h4 : ((s.owner) : Int) = (n)
              · by_cases h5 : ((s.ops n.toNat) : Int) = (op)
                · by_cases h6 : ((s.x) : Int) = (n)
                  · by_cases h7 : ((s.wt) : Int) = (3)
                    · simp only [wroteS, if_pos h6] at hN
                      exact pth (dg s ([iv n, iv op, iv psn, iv n0, iv n1, iv n2, iv n3, iv n4, iv n5, iv (s.ops n.toNat)] ++ tv t) [(lineV 1 s.line), pt 0 (18 + n.toNat), lineV 15 t.line] [encL s.line, encL t.line]) ⟨[kt .neq 31 (ch 0) (.slice none 0 0), kt .geq 3 (sv 40) (iv 0), kt .lss 3 (sv 40) (iv 8), kf .lss 2 (sv 42) (iv 0), kf .gtr 2 (sv 42) (iv 2147483647), kf .neq 3 (sv 1) (sv 40), kx 30 0 18 40 1, kf .neq 2 (sv 49) (sv 41), kf .neq 3 (sv 0) (sv 40), kt .eql 71 (sv 29) (iv 3)], [], [([2, 1000000], (eLd 1 15 [] 49))]⟩ [(52, [{ args := [.agg (v8 10)], c := 2, foots := [], news := [(2, .row 3 (.lst [sv 43, sv 44, sv 45, sv 46, sv 47, sv 48]) false)], res := .slice (some ⟨2, 0, none⟩) 6 INF }]), (73, [(eC0 [pt 0 0] 15 [(10, .bool false), (11, .bool false), (12, .bool false), (13, .bool false), (14, .bool false), (15, .bool false), (16, .bool false), (17, .bool false)] 50 2 1 0 1)])] ⟨asNeS u31 rfl, qT (n ≥ 0), qT (n < 8), qF (psn < 0), qF (psn > 2147483647), nF s.owner n, iA u30 z2 rfl rfl, nF ((s.ops n.toNat) : Int) op, nF s.x n, eT s.wt 3, trivial⟩ trivial ⟨ld (ld_ops s (lineV 1 s.line) 73 (q := n.toNat) (by omega)), trivial⟩ ⟨oe (toL52 (s.pa) (hl)), oe hN, trivial⟩ 2 (lockL []) (lockP ++ [sv 40, sv 41, sv 42]) [(0, 0), (15, 3), (14, 2)]
                    · exact ab ho
                  · by_cases h8 : ((s.wt) : Int) = (3)
                    · simp only [wroteS, if_neg h6] at hN
                      exact pth (dg s ([iv n, iv op, iv psn, iv n0, iv n1, iv n2, iv n3, iv n4, iv n5, iv (s.ops n.toNat)] ++ tv t) [(lineV 1 s.line), pt 0 (18 + n.toNat), lineV 15 t.line] [encL s.line, encL t.line]) ⟨[kt .neq 31 (ch 0) (.slice none 0 0), kt .geq 3 (sv 40) (iv 0), kt .lss 3 (sv 40) (iv 8), kf .lss 2 (sv 42) (iv 0), kf .gtr 2 (sv 42) (iv 2147483647), kf .neq 3 (sv 1) (sv 40), kx 30 0 18 40 1, kf .neq 2 (sv 49) (sv 41), kt .neq 3 (sv 0) (sv 40), kt .eql 71 (sv 29) (iv 3)], [], [([2, 1000000], (eLd 1 15 [] 49))]⟩ [(52, [{ args := [.agg (v8 10)], c := 2, foots := [], news := [(2, .row 3 (.lst [sv 43, sv 44, sv 45, sv 46, sv 47, sv 48]) false)], res := .slice (some ⟨2, 0, none⟩) 6 INF }]), (73, [(eC0 [pt 0 0] 15 [(1, iv (-1)), (10, .bool false), (11, .bool false), (12, .bool false), (13, .bool false), (14, .bool false), (15, .bool false), (16, .bool false), (17, .bool false)] 50 2 1 0 1)])] ⟨asNeS u31 rfl, qT (n ≥ 0), qT (n < 8), qF (psn < 0), qF (psn > 2147483647), nF s.owner n, iA u30 z2 rfl rfl, nF ((s.ops n.toNat) : Int) op, nT s.x n, eT s.wt 3, trivial⟩ trivial ⟨ld (ld_ops s (lineV 1 s.line) 73 (q := n.toNat) (by omega)), trivial⟩ ⟨oe (toL52 (s.pa) (hl)), oe hN, trivial⟩ 2 (lockL []) (lockP ++ [sv 40, sv 41, sv 42]) [(0, 0), (15, 3), (14, 2)]
                    · exact ab ho
                · exact ab ho
              · exact ab ho
        · exact ab ho
      · exact ab ho
  | cons x l =>
    · by_cases h0 : ((n) : Int) ≥ (0)
      · by_cases h1 : ((n) : Int) < (8)
        · by_cases h2 : ((psn) : Int) < (0)
          · exact ab ho
          · by_cases h3 : ((psn) : Int) > (2147483647)
            · exact ab ho
            · by_cases h4 : ((s.owner) : Int) = (n)
              · by_cases h5 : ((s.ops n.toNat) : Int) = (op)
                · by_cases h6 : ((s.x) : Int) = (n)
                  · by_cases h7 : ((s.wt) : Int) = (3)
                    · simp only [wroteS, if_pos h6] at hN
                      exact pth (dg s ([iv n, iv op, iv psn, iv n0, iv n1, iv n2, iv n3, iv n4, iv n5, iv (s.ops n.toNat)] ++ tv t) [(lineV 1 s.line), pt 0 (18 + n.toNat), lineV 15 t.line, .slice (some ⟨16, 0, none⟩) (x :: l).length cap, .slice (some ⟨17, 0, none⟩) ([⟨(6), (n0), (0), (0), (0), (psn)⟩, ⟨(6), (n1), (0), (0), (0), (psn)⟩, ⟨(6), (n2), (0), (0), (0), (psn)⟩, ⟨(6), (n3), (0), (0), (0), (psn)⟩, ⟨(6), (n4), (0), (0), (0), (psn)⟩, ⟨(6), (n5), (0), (0), (0), (psn)⟩] ++ x :: l : List Ord).length INF] [encL s.line, encL t.line, encOrds (x :: l), encOrds ([⟨(6), (n0), (0), (0), (0), (psn)⟩, ⟨(6), (n1), (0), (0), (0), (psn)⟩, ⟨(6), (n2), (0), (0), (0), (psn)⟩, ⟨(6), (n3), (0), (0), (0), (psn)⟩, ⟨(6), (n4), (0), (0), (0), (psn)⟩, ⟨(6), (n5), (0), (0), (0), (psn)⟩] ++ x :: l)]) ⟨[kt .neq 31 (ch 0) (.slice none 0 0), kt .geq 3 (sv 40) (iv 0), kt .lss 3 (sv 40) (iv 8), kf .lss 2 (sv 42) (iv 0), kf .gtr 2 (sv 42) (iv 2147483647), kf .neq 3 (sv 1) (sv 40), kx 30 0 18 40 1, kf .neq 2 (sv 49) (sv 41), kf .neq 3 (sv 0) (sv 40), kt .eql 71 (sv 29) (iv 3)], [], [([2, 1000000], (eLd 1 15 [] 49)), ([28, 28], { args := [.slice (some ⟨14, 0, none⟩) 6 INF, ch 3], c := 17, foots := [⟨14, 0, false, .row 45 (.lst [iv 6, sv 43, iv 0, iv 0, iv 0, sv 42, iv 6, sv 44, iv 0, iv 0, iv 0, sv 42, iv 6, sv 45, iv 0, iv 0, iv 0, sv 42, iv 6, sv 46, iv 0, iv 0, iv 0, sv 42, iv 6, sv 47, iv 0, iv 0, iv 0, sv 42, iv 6, sv 48, iv 0, iv 0, iv 0, sv 42]) false, .dead⟩, ⟨16, 1, true, .orow 45 2 false, .dead⟩], news := [(2, .orow 45 3 false)], res := ch 4 })]⟩ [(52, [{ args := [.agg (v8 10)], c := 2, foots := [], news := [(2, .row 3 (.lst [sv 43, sv 44, sv 45, sv 46, sv 47, sv 48]) false)], res := .slice (some ⟨2, 0, none⟩) 6 INF }]), (73, [(eC1 [pt 0 0] 15 [(10, .bool false), (11, .bool false), (12, .bool false), (13, .bool false), (14, .bool false), (15, .bool false), (16, .bool false), (17, .bool false)] 50 2 1 0 1 2 (ch 3))])] ⟨asNeS u31 rfl, qT (n ≥ 0), qT (n < 8), qF (psn < 0), qF (psn > 2147483647), nF s.owner n, iA u30 z2 rfl rfl, nF ((s.ops n.toNat) : Int) op, nF s.x n, eT s.wt 3, trivial⟩ trivial ⟨ld (ld_ops s (lineV 1 s.line) 73 (q := n.toNat) (by omega)), ap (app_ords_inf [⟨(6), (n0), (0), (0), (0), (psn)⟩, ⟨(6), (n1), (0), (0), (0), (psn)⟩, ⟨(6), (n2), (0), (0), (0), (psn)⟩, ⟨(6), (n3), (0), (0), (0), (psn)⟩, ⟨(6), (n4), (0), (0), (0), (psn)⟩, ⟨(6), (n5), (0), (0), (0), (psn)⟩] x l cap (by simp) hlen), trivial⟩ ⟨oe (toL52 (s.pa) (hl)), oe hN, trivial⟩ 2 (lockL []) (lockP ++ [sv 40, sv 41, sv 42]) [(0, 0), (15, 3), (17, 2)]
                    · exact ab ho
                  · by_cases h8 : ((s.wt) : Int) = (3)
                    · simp only [wroteS, if_neg h6] at hN
                      exact pth (dg s ([iv n, iv op, iv psn, iv n0, iv n1, iv n2, iv n3, iv n4, iv n5, iv (s.ops n.toNat)] ++ tv t) [(lineV 1 s.line), pt 0 (18 + n.toNat), lineV 15 t.line, .slice (some ⟨16, 0, none⟩) (x :: l).length cap, .slice (some ⟨17, 0, none⟩) ([⟨(6), (n0), (0), (0), (0), (psn)⟩, ⟨(6), (n1), (0), (0), (0), (psn)⟩, ⟨(6), (n2), (0), (0), (0), (psn)⟩, ⟨(6), (n3), (0), (0), (0), (psn)⟩, ⟨(6), (n4), (0), (0), (0), (psn)⟩, ⟨(6), (n5), (0), (0), (0), (psn)⟩] ++ x :: l : List Ord).length INF] [encL s.line, encL t.line, encOrds (x :: l), encOrds ([⟨(6), (n0), (0), (0), (0), (psn)⟩, ⟨(6), (n1), (0), (0), (0), (psn)⟩, ⟨(6), (n2), (0), (0), (0), (psn)⟩, ⟨(6), (n3), (0), (0), (0), (psn)⟩, ⟨(6), (n4), (0), (0), (0), (psn)⟩, ⟨(6), (n5), (0), (0), (0), (psn)⟩] ++ x :: l)]) ⟨[kt .neq 31 (ch 0) (.slice none 0 0), kt .geq 3 (sv 40) (iv 0), kt .lss 3 (sv 40) (iv 8), kf .lss 2 (sv 42) (iv 0), kf .gtr 2 (sv 42) (iv 2147483647), kf .neq 3 (sv 1) (sv 40), kx 30 0 18 40 1, kf .neq 2 (sv 49) (sv 41), kt .neq 3 (sv 0) (sv 40), kt .eql 71 (sv 29) (iv 3)], [], [([2, 1000000], (eLd 1 15 [] 49)), ([28, 28], { args := [.slice (some ⟨14, 0, none⟩) 6 INF, ch 3], c := 17, foots := [⟨14, 0, false, .row 45 (.lst [iv 6, sv 43, iv 0, iv 0, iv 0, sv 42, iv 6, sv 44, iv 0, iv 0, iv 0, sv 42, iv 6, sv 45, iv 0, iv 0, iv 0, sv 42, iv 6, sv 46, iv 0, iv 0, iv 0, sv 42, iv 6, sv 47, iv 0, iv 0, iv 0, sv 42, iv 6, sv 48, iv 0, iv 0, iv 0, sv 42]) false, .dead⟩, ⟨16, 1, true, .orow 45 2 false, .dead⟩], news := [(2, .orow 45 3 false)], res := ch 4 })]⟩ [(52, [{ args := [.agg (v8 10)], c := 2, foots := [], news := [(2, .row 3 (.lst [sv 43, sv 44, sv 45, sv 46, sv 47, sv 48]) false)], res := .slice (some ⟨2, 0, none⟩) 6 INF }]), (73, [(eC1 [pt 0 0] 15 [(1, iv (-1)), (10, .bool false), (11, .bool false), (12, .bool false), (13, .bool false), (14, .bool false), (15, .bool false), (16, .bool false), (17, .bool false)] 50 2 1 0 1 2 (ch 3))])] ⟨asNeS u31 rfl, qT (n ≥ 0), qT (n < 8), qF (psn < 0), qF (psn > 2147483647), nF s.owner n, iA u30 z2 rfl rfl, nF ((s.ops n.toNat) : Int) op, nT s.x n, eT s.wt 3, trivial⟩ trivial ⟨ld (ld_ops s (lineV 1 s.line) 73 (q := n.toNat) (by omega)), ap (app_ords_inf [⟨(6), (n0), (0), (0), (0), (psn)⟩, ⟨(6), (n1), (0), (0), (0), (psn)⟩, ⟨(6), (n2), (0), (0), (0), (psn)⟩, ⟨(6), (n3), (0), (0), (0), (psn)⟩, ⟨(6), (n4), (0), (0), (0), (psn)⟩, ⟨(6), (n5), (0), (0), (0), (psn)⟩] x l cap (by simp) hlen), trivial⟩ ⟨oe (toL52 (s.pa) (hl)), oe hN, trivial⟩ 2 (lockL []) (lockP ++ [sv 40, sv 41, sv 42]) [(0, 0), (15, 3), (17, 2)]
                    · exact ab ho
                · exact ab ho
              · exact ab ho
        · exact ab ho
      · exact ab ho
theorem wrote_t7 {s : St} {n op psn : Int} {n0 n1 n2 n3 n4 n5 n6 : Int} (hl : listTo s.pa 8 = [n0, n1, n2, n3, n4, n5, n6]) (ho : (0 ≤ n ∧ n < 8) ∧ (0 ≤ psn ∧ psn ≤ 2147483647) ∧ ¬ (s.owner = n ∧ s.ops n.toNat = op ∧ s.wt = 3)) : MC 32 [.int .i64 n, .int .i64 op, .int .i64 psn] s (wroteT s n op) (discs psn [n0, n1, n2, n3, n4, n5, n6]) := by
  refine MC.mk (cap := INF) ?_
  · by_cases h0 : ((n) : Int) ≥ (0)
    · by_cases h1 : ((n) : Int) < (8)
      · by_cases h2 : ((psn) : Int) < (0)
        · exact ab ho
        · by_cases h3 : ((psn) : Int) > (2147483647)
          · exact ab ho
          · by_cases h4 : ((s.owner) : Int) = (n)
            · by_cases h5 : ((s.ops n.toNat) : Int) = (op)
              · by_cases h6 : ((s.x) : Int) = (n)
                · by_cases h7 : ((s.wt) : Int) = (3)
                  · exact ab ho
                  · simp only [wroteT, wroteS, if_pos h4, if_pos h5, if_pos h6]
                    exact pth (dg s [iv n, iv op, iv psn, iv n0, iv n1, iv n2, iv n3, iv n4, iv n5, iv n6, iv (s.ops n.toNat)] [(lineV 1 s.line), pt 0 (18 + n.toNat)] [encL s.line]) ⟨[kt .neq 31 (ch 0) (.slice none 0 0), kt .geq 3 (sv 40) (iv 0), kt .lss 3 (sv 40) (iv 8), kf .lss 2 (sv 42) (iv 0), kf .gtr 2 (sv 42) (iv 2147483647), kf .neq 3 (sv 1) (sv 40), kx 30 0 18 40 1, kf .neq 2 (sv 50) (sv 41), kf .neq 3 (sv 0) (sv 40), kf .eql 71 (sv 29) (iv 3)], [], [([2, 1000000], (eLd 1 17 [] 50))]⟩ [(52, [{ args := [.agg (v8 10)], c := 2, foots := [], news := [(2, .row 3 (.lst [sv 43, sv 44, sv 45, sv 46, sv 47, sv 48, sv 49]) false)], res := .slice (some ⟨2, 0, none⟩) 7 INF }])] ⟨asNeS u31 rfl, qT (n ≥ 0), qT (n < 8), qF (psn < 0), qF (psn > 2147483647), nF s.owner n, iA u30 z2 rfl rfl, nF ((s.ops n.toNat) : Int) op, nF s.x n, eF s.wt 3, trivial⟩ trivial ⟨ld (ld_ops s (lineV 1 s.line) 73 (q := n.toNat) (by omega)), trivial⟩ ⟨oe (toL52 (s.pa) (hl)), trivial⟩ 2 (lockL []) (lockP ++ [sv 40, sv 41, sv 42]) [(0, 0), (1, 3), (16, 2)]
                · by_cases h8 : ((s.wt) : Int) = (3)
                  · exact ab ho
                  · simp only [wroteT, wroteS, if_pos h4, if_pos h5, if_neg h6]
                    exact pth (dg s [iv n, iv op, iv psn, iv n0, iv n1, iv n2, iv n3, iv n4, iv n5, iv n6, iv (s.ops n.toNat)] [(lineV 1 s.line), pt 0 (18 + n.toNat)] [encL s.line]) ⟨[kt .neq 31 (ch 0) (.slice none 0 0), kt .geq 3 (sv 40) (iv 0), kt .lss 3 (sv 40) (iv 8), kf .lss 2 (sv 42) (iv 0), kf .gtr 2 (sv 42) (iv 2147483647), kf .neq 3 (sv 1) (sv 40), kx 30 0 18 40 1, kf .neq 2 (sv 50) (sv 41), kt .neq 3 (sv 0) (sv 40), kf .eql 71 (sv 29) (iv 3)], [], [([2, 1000000], (eLd 1 17 [] 50))]⟩ [(52, [{ args := [.agg (v8 10)], c := 2, foots := [], news := [(2, .row 3 (.lst [sv 43, sv 44, sv 45, sv 46, sv 47, sv 48, sv 49]) false)], res := .slice (some ⟨2, 0, none⟩) 7 INF }])] ⟨asNeS u31 rfl, qT (n ≥ 0), qT (n < 8), qF (psn < 0), qF (psn > 2147483647), nF s.owner n, iA u30 z2 rfl rfl, nF ((s.ops n.toNat) : Int) op, nT s.x n, eF s.wt 3, trivial⟩ trivial ⟨ld (ld_ops s (lineV 1 s.line) 73 (q := n.toNat) (by omega)), trivial⟩ ⟨oe (toL52 (s.pa) (hl)), trivial⟩ 2 (lockL []) (lockP ++ [sv 40, sv 41, sv 42]) [(0, 0), (1, 3), (16, 2)]
              · simp only [wroteT, wroteS, if_pos h4, if_neg h5]
                exact pth (dg s [iv n, iv op, iv psn, iv n0, iv n1, iv n2, iv n3, iv n4, iv n5, iv n6, iv (s.ops n.toNat)] [(lineV 1 s.line), pt 0 (18 + n.toNat)] [encL s.line]) ⟨[kt .neq 31 (ch 0) (.slice none 0 0), kt .geq 3 (sv 40) (iv 0), kt .lss 3 (sv 40) (iv 8), kf .lss 2 (sv 42) (iv 0), kf .gtr 2 (sv 42) (iv 2147483647), kf .neq 3 (sv 1) (sv 40), kx 30 0 18 40 1, kt .neq 2 (sv 50) (sv 41)], [], [([2, 1000000], (eLd 1 17 [] 50))]⟩ [(52, [{ args := [.agg (v8 10)], c := 2, foots := [], news := [(2, .row 3 (.lst [sv 43, sv 44, sv 45, sv 46, sv 47, sv 48, sv 49]) false)], res := .slice (some ⟨2, 0, none⟩) 7 INF }])] ⟨asNeS u31 rfl, qT (n ≥ 0), qT (n < 8), qF (psn < 0), qF (psn > 2147483647), nF s.owner n, iA u30 z2 rfl rfl, nT ((s.ops n.toNat) : Int) op, trivial⟩ trivial ⟨ld (ld_ops s (lineV 1 s.line) 73 (q := n.toNat) (by omega)), trivial⟩ ⟨oe (toL52 (s.pa) (hl)), trivial⟩ 2 (lockL []) (lockP ++ [sv 40, sv 41, sv 42]) [(0, 0), (1, 3), (16, 2)]
            · simp only [wroteT, wroteS, if_neg h4]
              exact pth (dg s [iv n, iv op, iv psn, iv n0, iv n1, iv n2, iv n3, iv n4, iv n5, iv n6] [(lineV 1 s.line)] [encL s.line]) ⟨[kt .neq 31 (ch 0) (.slice none 0 0), kt .geq 3 (sv 40) (iv 0), kt .lss 3 (sv 40) (iv 8), kf .lss 2 (sv 42) (iv 0), kf .gtr 2 (sv 42) (iv 2147483647), kt .neq 3 (sv 1) (sv 40)], [], []⟩ [(52, [{ args := [.agg (v8 10)], c := 2, foots := [], news := [(2, .row 3 (.lst [sv 43, sv 44, sv 45, sv 46, sv 47, sv 48, sv 49]) false)], res := .slice (some ⟨2, 0, none⟩) 7 INF }])] ⟨asNeS u31 rfl, qT (n ≥ 0), qT (n < 8), qF (psn < 0), qF (psn > 2147483647), nT s.owner n, trivial⟩ trivial trivial ⟨oe (toL52 (s.pa) (hl)), trivial⟩ 2 (lockL []) (lockP ++ [sv 40, sv 41, sv 42]) [(0, 0), (1, 3), (16, 2)]
      · exact ab ho
    · exact ab ho
theorem wrote_w7 {s t : St} {n op psn : Int} {n0 n1 n2 n3 n4 n5 n6 : Int} {o : List Ord} (hlen : o.length < 1000000) (hl : listTo s.pa 8 = [n0, n1, n2, n3, n4, n5, n6]) (ho : (0 ≤ n ∧ n < 8) ∧ (0 ≤ psn ∧ psn ≤ 2147483647) ∧ (s.owner = n ∧ s.ops n.toNat = op ∧ s.wt = 3)) (h : MC 73 [] (wroteS s n) t o) : MC 32 [.int .i64 n, .int .i64 op, .int .i64 psn] s t (discs psn [n0, n1, n2, n3, n4, n5, n6] ++ o) := by
  obtain ⟨cap, hcap, hN⟩ := h
  refine MC.mk (cap := INF) ?_
  cases o with
  | nil =>
    · by_cases h0 : ((n) : Int) ≥ (0)
      · by_cases h1 : ((n) : Int) < (8)
        · by_cases h2 : ((psn) : Int) < (0)
          · exact ab ho
          · by_cases h3 : ((psn) : Int) > (2147483647)
            · exact ab ho
            · by_cases h4 : ((s.owner) : Int) = (n)
              · by_cases h5 : ((s.ops n.toNat) : Int) = (op)
                · by_cases h6 : ((s.x) : Int) = (n)
                  · by_cases h7 : ((s.wt) : Int) = (3)
                    · simp only [wroteS, if_pos h6] at hN
                      exact pth (dg s ([iv n, iv op, iv psn, iv n0, iv n1, iv n2, iv n3, iv n4, iv n5, iv n6, iv (s.ops n.toNat)] ++ tv t) [(lineV 1 s.line), pt 0 (18 + n.toNat), lineV 17 t.line] [encL s.line, encL t.line]) ⟨[kt .neq 31 (ch 0) (.slice none 0 0), kt .geq 3 (sv 40) (iv 0), kt .lss 3 (sv 40) (iv 8), kf .lss 2 (sv 42) (iv 0), kf .gtr 2 (sv 42) (iv 2147483647), kf .neq 3 (sv 1) (sv 40), kx 30 0 18 40 1, kf .neq 2 (sv 50) (sv 41), kf .neq 3 (sv 0) (sv 40), kt .eql 71 (sv 29) (iv 3)], [], [([2, 1000000], (eLd 1 17 [] 50))]⟩ [(52, [{ args := [.agg (v8 10)], c := 2, foots := [], news := [(2, .row 3 (.lst [sv 43, sv 44, sv 45, sv 46, sv 47, sv 48, sv 49]) false)], res := .slice (some ⟨2, 0, none⟩) 7 INF }]), (73, [(eC0 [pt 0 0] 17 [(10, .bool false), (11, .bool false), (12, .bool false), (13, .bool false), (14, .bool false), (15, .bool false), (16, .bool false), (17, .bool false)] 51 2 1 0 1)])] ⟨asNeS u31 rfl, qT (n ≥ 0), qT (n < 8), qF (psn < 0), qF (psn > 2147483647), nF s.owner n, iA u30 z2 rfl rfl, nF ((s.ops n.toNat) : Int) op, nF s.x n, eT s.wt 3, trivial⟩ trivial ⟨ld (ld_ops s (lineV 1 s.line) 73 (q := n.toNat) (by omega)), trivial⟩ ⟨oe (toL52 (s.pa) (hl)), oe hN, trivial⟩ 2 (lockL []) (lockP ++ [sv 40, sv 41, sv 42]) [(0, 0), (17, 3), (16, 2)]
                    · exact ab ho
                  · by_cases h8 : ((s.wt) : Int) = (3)
                    · simp only [wroteS, if_neg h6] at hN
                      exact pth (dg s ([iv n, iv op, iv psn, iv n0, iv n1, iv n2, iv n3, iv n4, iv n5, iv n6, iv (s.ops n.toNat)] ++ tv t) [(lineV 1 s.line), pt 0 (18 + n.toNat), lineV 17 t.line] [encL s.line, encL t.line]) ⟨[kt .neq 31 (ch 0) (.slice none 0 0), kt .geq 3 (sv 40) (iv 0), kt .lss 3 (sv 40) (iv 8), kf .lss 2 (sv 42) (iv 0), kf .gtr 2 (sv 42) (iv 2147483647), kf .neq 3 (sv 1) (sv 40), kx 30 0 18 40 1, kf .neq 2 (sv 50) (sv 41), kt .neq 3 (sv 0) (sv 40), kt .eql 71 (sv 29) (iv 3)], [], [([2, 1000000], (eLd 1 17 [] 50))]⟩ [(52, [{ args := [.agg (v8 10)], c := 2, foots := [], news := [(2, .row 3 (.lst [sv 43, sv 44, sv 45, sv 46, sv 47, sv 48, sv 49]) false)], res := .slice (some ⟨2, 0, none⟩) 7 INF }]), (73, [(eC0 [pt 0 0] 17 [(1, iv (-1)), (10, .bool false), (11, .bool false), (12, .bool false), (13, .bool false), (14, .bool false), (15, .bool false), (16, .bool false), (17, .bool false)] 51 2 1 0 1)])] ⟨asNeS u31 rfl, qT (n ≥ 0), qT (n < 8), qF (psn < 0), qF (psn > 2147483647), nF s.owner n, iA u30 z2 rfl rfl, nF ((s.ops n.toNat) : Int) op, nT s.x n, eT s.wt 3, trivial⟩ trivial ⟨ld (ld_ops s (lineV 1 s.line) 73 (q := n.toNat) (by omega)), trivial⟩ ⟨oe (toL52 (s.pa) (hl)), oe hN, trivial⟩ 2 (lockL []) (lockP ++ [sv 40, sv 41, sv 42]) [(0, 0), (17, 3), (16, 2)]
                    · exact ab ho
                · exact ab ho
              · exact ab ho
        · exact ab ho
      · exact ab ho
  | cons x l =>
    · by_cases h0 : ((n) : Int) ≥ (0)
      · by_cases h1 : ((n) : Int) < (8)
        · by_cases h2 : ((psn) : Int) < (0)
          · exact ab ho
          · by_cases h3 : ((psn) : Int) > (2147483647)
            · exact ab ho
            · by_cases h4 : ((s.owner) : Int) = (n)
              · by_cases h5 : ((s.ops n.toNat) : Int) = (op)
                · by_cases h6 : ((s.x) : Int) = (n)
                  · by_cases h7 : ((s.wt) : Int) = (3)
                    · simp only [wroteS, if_pos h6] at hN
                      exact pth (dg s ([iv n, iv op, iv psn, iv n0, iv n1, iv n2, iv n3, iv n4, iv n5, iv n6, iv (s.ops n.toNat)] ++ tv t) [(lineV 1 s.line), pt 0 (18 + n.toNat), lineV 17 t.line, .slice (some ⟨18, 0, none⟩) (x :: l).length cap, .slice (some ⟨19, 0, none⟩) ([⟨(6), (n0), (0), (0), (0), (psn)⟩, ⟨(6), (n1), (0), (0), (0), (psn)⟩, ⟨(6), (n2), (0), (0), (0), (psn)⟩, ⟨(6), (n3), (0), (0), (0), (psn)⟩, ⟨(6), (n4), (0), (0), (0), (psn)⟩, ⟨(6), (n5), (0), (0), (0), (psn)⟩, ⟨(6), (n6), (0), (0), (0), (psn)⟩] ++ x :: l : List Ord).length INF] [encL s.line, encL t.line, encOrds (x :: l), encOrds ([⟨(6), (n0), (0), (0), (0), (psn)⟩, ⟨(6), (n1), (0), (0), (0), (psn)⟩, ⟨(6), (n2), (0), (0), (0), (psn)⟩, ⟨(6), (n3), (0), (0), (0), (psn)⟩, ⟨(6), (n4), (0), (0), (0), (psn)⟩, ⟨(6), (n5), (0), (0), (0), (psn)⟩, ⟨(6), (n6), (0), (0), (0), (psn)⟩] ++ x :: l)]) ⟨[kt .neq 31 (ch 0) (.slice none 0 0), kt .geq 3 (sv 40) (iv 0), kt .lss 3 (sv 40) (iv 8), kf .lss 2 (sv 42) (iv 0), kf .gtr 2 (sv 42) (iv 2147483647), kf .neq 3 (sv 1) (sv 40), kx 30 0 18 40 1, kf .neq 2 (sv 50) (sv 41), kf .neq 3 (sv 0) (sv 40), kt .eql 71 (sv 29) (iv 3)], [], [([2, 1000000], (eLd 1 17 [] 50)), ([28, 28], { args := [.slice (some ⟨16, 0, none⟩) 7 INF, ch 3], c := 19, foots := [⟨16, 0, false, .row 45 (.lst [iv 6, sv 43, iv 0, iv 0, iv 0, sv 42, iv 6, sv 44, iv 0, iv 0, iv 0, sv 42, iv 6, sv 45, iv 0, iv 0, iv 0, sv 42, iv 6, sv 46, iv 0, iv 0, iv 0, sv 42, iv 6, sv 47, iv 0, iv 0, iv 0, sv 42, iv 6, sv 48, iv 0, iv 0, iv 0, sv 42, iv 6, sv 49, iv 0, iv 0, iv 0, sv 42]) false, .dead⟩, ⟨18, 1, true, .orow 45 2 false, .dead⟩], news := [(2, .orow 45 3 false)], res := ch 4 })]⟩ [(52, [{ args := [.agg (v8 10)], c := 2, foots := [], news := [(2, .row 3 (.lst [sv 43, sv 44, sv 45, sv 46, sv 47, sv 48, sv 49]) false)], res := .slice (some ⟨2, 0, none⟩) 7 INF }]), (73, [(eC1 [pt 0 0] 17 [(10, .bool false), (11, .bool false), (12, .bool false), (13, .bool false), (14, .bool false), (15, .bool false), (16, .bool false), (17, .bool false)] 51 2 1 0 1 2 (ch 3))])] ⟨asNeS u31 rfl, qT (n ≥ 0), qT (n < 8), qF (psn < 0), qF (psn > 2147483647), nF s.owner n, iA u30 z2 rfl rfl, nF ((s.ops n.toNat) : Int) op, nF s.x n, eT s.wt 3, trivial⟩ trivial ⟨ld (ld_ops s (lineV 1 s.line) 73 (q := n.toNat) (by omega)), ap (app_ords_inf [⟨(6), (n0), (0), (0), (0), (psn)⟩, ⟨(6), (n1), (0), (0), (0), (psn)⟩, ⟨(6), (n2), (0), (0), (0), (psn)⟩, ⟨(6), (n3), (0), (0), (0), (psn)⟩, ⟨(6), (n4), (0), (0), (0), (psn)⟩, ⟨(6), (n5), (0), (0), (0), (psn)⟩, ⟨(6), (n6), (0), (0), (0), (psn)⟩] x l cap (by simp) hlen), trivial⟩ ⟨oe (toL52 (s.pa) (hl)), oe hN, trivial⟩ 2 (lockL []) (lockP ++ [sv 40, sv 41, sv 42]) [(0, 0), (17, 3), (19, 2)]
                    · exact ab ho
                  · by_cases h8 : ((s.wt) : Int) = (3)
                    · simp only [wroteS, if_neg h6] at hN
                      exact pth (dg s ([iv n, iv op, iv psn, iv n0, iv n1, iv n2, iv n3, iv n4, iv n5, iv n6, iv (s.ops n.toNat)] ++ tv t) [(lineV 1 s.line), pt 0 (18 + n.toNat), lineV 17 t.line, .slice (some ⟨18, 0, none⟩) (x :: l).length cap, .slice (some ⟨19, 0, none⟩) ([⟨(6), (n0), (0), (0), (0), (psn)⟩, ⟨(6), (n1), (0), (0), (0), (psn)⟩, ⟨(6), (n2), (0), (0), (0), (psn)⟩, ⟨(6), (n3), (0), (0), (0), (psn)⟩, ⟨(6), (n4), (0), (0), (0), (psn)⟩, ⟨(6), (n5), (0), (0), (0), (psn)⟩, ⟨(6), (n6), (0), (0), (0), (psn)⟩] ++ x :: l : List Ord).length INF] [encL s.line, encL t.line, encOrds (x :: l), encOrds ([⟨(6), (n0), (0), (0), (0), (psn)⟩, ⟨(6), (n1), (0), (0), (0), (psn)⟩, ⟨(6), (n2), (0), (0), (0), (psn)⟩, ⟨(6), (n3), (0), (0), (0), (psn)⟩, ⟨(6), (n4), (0), (0), (0), (psn)⟩, ⟨(6), (n5), (0), (0), (0), (psn)⟩, ⟨(6), (n6), (0), (0), (0), (psn)⟩] ++ x :: l)]) ⟨[kt .neq 31 (ch 0) (.slice none 0 0), kt .geq 3 (sv 40) (iv 0), kt .lss 3 (sv 40) (iv 8), kf .lss 2 (sv 42) (iv 0), kf .gtr 2 (sv 42) (iv 2147483647), kf .neq 3 (sv 1) (sv 40), kx 30 0 18 40 1, kf .neq 2 (sv 50) (sv 41), kt .neq 3 (sv 0) (sv 40), kt .eql 71 (sv 29) (iv 3)], [], [([2, 1000000], (eLd 1 17 [] 50)), ([28, 28], { args := [.slice (some ⟨16, 0, none⟩) 7 INF, ch 3], c := 19, foots := [⟨16, 0, false, .row 45 (.lst [iv 6, sv 43, iv 0, iv 0, iv 0, sv 42, iv 6, sv 44, iv 0, iv 0, iv 0, sv 42, iv 6, sv 45, iv 0, iv 0, iv 0, sv 42, iv 6, sv 46, iv 0, iv 0, iv 0, sv 42, iv 6, sv 47, iv 0, iv 0, iv 0, sv 42, iv 6, sv 48, iv 0, iv 0, iv 0, sv 42, iv 6, sv 49, iv 0, iv 0, iv 0, sv 42]) false, .dead⟩, ⟨18, 1, true, .orow 45 2 false, .dead⟩], news := [(2, .orow 45 3 false)], res := ch 4 })]⟩ [(52, [{ args := [.agg (v8 10)], c := 2, foots := [], news := [(2, .row 3 (.lst [sv 43, sv 44, sv 45, sv 46, sv 47, sv 48, sv 49]) false)], res := .slice (some ⟨2, 0, none⟩) 7 INF }]), (73, [(eC1 [pt 0 0] 17 [(1, iv (-1)), (10, .bool false), (11, .bool false), (12, .bool false), (13, .bool false), (14, .bool false), (15, .bool false), (16, .bool false), (17, .bool false)] 51 2 1 0 1 2 (ch 3))])] ⟨asNeS u31 rfl, qT (n ≥ 0), qT (n < 8), qF (psn < 0), qF (psn > 2147483647), nF s.owner n, iA u30 z2 rfl rfl, nF ((s.ops n.toNat) : Int) op, nT s.x n, eT s.wt 3, trivial⟩ trivial ⟨ld (ld_ops s (lineV 1 s.line) 73 (q := n.toNat) (by omega)), ap (app_ords_inf [⟨(6), (n0), (0), (0), (0), (psn)⟩, ⟨(6), (n1), (0), (0), (0), (psn)⟩, ⟨(6), (n2), (0), (0), (0), (psn)⟩, ⟨(6), (n3), (0), (0), (0), (psn)⟩, ⟨(6), (n4), (0), (0), (0), (psn)⟩, ⟨(6), (n5), (0), (0), (0), (psn)⟩, ⟨(6), (n6), (0), (0), (0), (psn)⟩] x l cap (by simp) hlen), trivial⟩ ⟨oe (toL52 (s.pa) (hl)), oe hN, trivial⟩ 2 (lockL []) (lockP ++ [sv 40, sv 41, sv 42]) [(0, 0), (17, 3), (19, 2)]
                    · exact ab ho
                · exact ab ho
              · exact ab ho
        · exact ab ho
      · exact ab ho
theorem wrote_t8 {s : St} {n op psn : Int} {n0 n1 n2 n3 n4 n5 n6 n7 : Int} (hl : listTo s.pa 8 = [n0, n1, n2, n3, n4, n5, n6, n7]) (ho : (0 ≤ n ∧ n < 8) ∧ (0 ≤ psn ∧ psn ≤ 2147483647) ∧ ¬ (s.owner = n ∧ s.ops n.toNat = op ∧ s.wt = 3)) : MC 32 [.int .i64 n, .int .i64 op, .int .i64 psn] s (wroteT s n op) (discs psn [n0, n1, n2, n3, n4, n5, n6, n7]) := by
  refine MC.mk (cap := INF) ?_
  · by_cases h0 : ((n) : Int) ≥ (0)
    · by_cases h1 : ((n) : Int) < (8)
      · by_cases h2 : ((psn) : Int) < (0)
        · exact ab ho
        · by_cases h3 : ((psn) : Int) > (2147483647)
          · exact ab ho
          · by_cases h4 : ((s.owner) : Int) = (n)
            · by_cases h5 : ((s.ops n.toNat) : Int) = (op)
              · by_cases h6 : ((s.x) : Int) = (n)
                · by_cases h7 : ((s.wt) : Int) = (3)
                  · exact ab ho
                  · simp only [wroteT, wroteS, if_pos h4, if_pos h5, if_pos h6]
                    exact pth (dg s [iv n, iv op, iv psn, iv n0, iv n1, iv n2, iv n3, iv n4, iv n5, iv n6, iv n7, iv (s.ops n.toNat)] [(lineV 1 s.line), pt 0 (18 + n.toNat)] [encL s.line]) ⟨[kt .neq 31 (ch 0) (.slice none 0 0), kt .geq 3 (sv 40) (iv 0), kt .lss 3 (sv 40) (iv 8), kf .lss 2 (sv 42) (iv 0), kf .gtr 2 (sv 42) (iv 2147483647), kf .neq 3 (sv 1) (sv 40), kx 30 0 18 40 1, kf .neq 2 (sv 51) (sv 41), kf .neq 3 (sv 0) (sv 40), kf .eql 71 (sv 29) (iv 3)], [], [([2, 1000000], (eLd 1 19 [] 51))]⟩ [(52, [{ args := [.agg (v8 10)], c := 2, foots := [], news := [(2, .row 3 (.lst [sv 43, sv 44, sv 45, sv 46, sv 47, sv 48, sv 49, sv 50]) false)], res := .slice (some ⟨2, 0, none⟩) 8 INF }])] ⟨asNeS u31 rfl, qT (n ≥ 0), qT (n < 8), qF (psn < 0), qF (psn > 2147483647), nF s.owner n, iA u30 z2 rfl rfl, nF ((s.ops n.toNat) : Int) op, nF s.x n, eF s.wt 3, trivial⟩ trivial ⟨ld (ld_ops s (lineV 1 s.line) 73 (q := n.toNat) (by omega)), trivial⟩ ⟨oe (toL52 (s.pa) (hl)), trivial⟩ 2 (lockL []) (lockP ++ [sv 40, sv 41, sv 42]) [(0, 0), (1, 3), (18, 2)]
                · by_cases h8 : ((s.wt) : Int) = (3)
                  · exact ab ho
                  · simp only [wroteT, wroteS, if_pos h4, if_pos h5, if_neg h6]
                    exact pth (dg s [iv n, iv op, iv psn, iv n0, iv n1, iv n2, iv n3, iv n4, iv n5, iv n6, iv n7, iv (s.ops n.toNat)] [(lineV 1 s.line), pt 0 (18 + n.toNat)] [encL s.line]) ⟨[kt .neq 31 (ch 0) (.slice none 0 0), kt .geq 3 (sv 40) (iv 0), kt .lss 3 (sv 40) (iv 8), kf .lss 2 (sv 42) (iv 0), kf .gtr 2 (sv 42) (iv 2147483647), kf .neq 3 (sv 1) (sv 40), kx 30 0 18 40 1, kf .neq 2 (sv 51) (sv 41), kt .neq 3 (sv 0) (sv 40), kf .eql 71 (sv 29) (iv 3)], [], [([2, 1000000], (eLd 1 19 [] 51))]⟩ [(52, [{ args := [.agg (v8 10)], c := 2, foots := [], news := [(2, .row 3 (.lst [sv 43, sv 44, sv 45, sv 46, sv 47, sv 48, sv 49, sv 50]) false)], res := .slice (some ⟨2, 0, none⟩) 8 INF }])] ⟨asNeS u31 rfl, qT (n ≥ 0), qT (n < 8), qF (psn < 0), qF (psn > 2147483647), nF s.owner n, iA u30 z2 rfl rfl, nF ((s.ops n.toNat) : Int) op, nT s.x n, eF s.wt 3, trivial⟩ trivial ⟨ld (ld_ops s (lineV 1 s.line) 73 (q := n.toNat) (by omega)), trivial⟩ ⟨oe (toL52 (s.pa) (hl)), trivial⟩ 2 (lockL []) (lockP ++ [sv 40, sv 41, sv 42]) [(0, 0), (1, 3), (18, 2)]
              · simp only [wroteT, wroteS, if_pos h4, if_neg h5]
                exact pth (dg s [iv n, iv op, iv psn, iv n0, iv n1, iv n2, iv n3, iv n4, iv n5, iv n6, iv n7, iv (s.ops n.toNat)] [(lineV 1 s.line), pt 0 (18 + n.toNat)] [encL s.line]) ⟨[kt .neq 31 (ch 0) (.slice none 0 0), kt .geq 3 (sv 40) (iv 0), kt .lss 3 (sv 40) (iv 8), kf .lss 2 (sv 42) (iv 0), kf .gtr 2 (sv 42) (iv 2147483647), kf .neq 3 (sv 1) (sv 40), kx 30 0 18 40 1, kt .neq 2 (sv 51) (sv 41)], [], [([2, 1000000], (eLd 1 19 [] 51))]⟩ [(52, [{ args := [.agg (v8 10)], c := 2, foots := [], news := [(2, .row 3 (.lst [sv 43, sv 44, sv 45, sv 46, sv 47, sv 48, sv 49, sv 50]) false)], res := .slice (some ⟨2, 0, none⟩) 8 INF }])] ⟨asNeS u31 rfl, qT (n ≥ 0), qT (n < 8), qF (psn < 0), qF (psn > 2147483647), nF s.owner n, iA u30 z2 rfl rfl, nT ((s.ops n.toNat) : Int) op, trivial⟩ trivial ⟨ld (ld_ops s (lineV 1 s.line) 73 (q := n.toNat) (by omega)), trivial⟩ ⟨oe (toL52 (s.pa) (hl)), trivial⟩ 2 (lockL []) (lockP ++ [sv 40, sv 41, sv 42]) [(0, 0), (1, 3), (18, 2)]
            · simp only [wroteT, wroteS, if_neg h4]
              exact pth (dg s [iv n, iv op, iv psn, iv n0, iv n1, iv n2, iv n3, iv n4, iv n5, iv n6, iv n7] [(lineV 1 s.line)] [encL s.line]) ⟨[kt .neq 31 (ch 0) (.slice none 0 0), kt .geq 3 (sv 40) (iv 0), kt .lss 3 (sv 40) (iv 8), kf .lss 2 (sv 42) (iv 0), kf .gtr 2 (sv 42) (iv 2147483647), kt .neq 3 (sv 1) (sv 40)], [], []⟩ [(52, [{ args := [.agg (v8 10)], c := 2, foots := [], news := [(2, .row 3 (.lst [sv 43, sv 44, sv 45, sv 46, sv 47, sv 48, sv 49, sv 50]) false)], res := .slice (some ⟨2, 0, none⟩) 8 INF }])] ⟨asNeS u31 rfl, qT (n ≥ 0), qT (n < 8), qF (psn < 0), qF (psn > 2147483647), nT s.owner n, trivial⟩ trivial trivial ⟨oe (toL52 (s.pa) (hl)), trivial⟩ 2 (lockL []) (lockP ++ [sv 40, sv 41, sv 42]) [(0, 0), (1, 3), (18, 2)]
      · exact ab ho
    · exact ab ho
theorem wrote_w8 {s t : St} {n op psn : Int} {n0 n1 n2 n3 n4 n5 n6 n7 : Int} {o : List Ord} (hlen : o.length < 1000000) (hl : listTo s.pa 8 = [n0, n1, n2, n3, n4, n5, n6, n7]) (ho : (0 ≤ n ∧ n < 8) ∧ (0 ≤ psn ∧ psn ≤ 2147483647) ∧ (s.owner = n ∧ s.ops n.toNat = op ∧ s.wt = 3)) (h : MC 73 [] (wroteS s n) t o) : MC 32 [.int .i64 n, .int .i64 op, .int .i64 psn] s t (discs psn [n0, n1, n2, n3, n4, n5, n6, n7] ++ o) := by
  obtain ⟨cap, hcap, hN⟩ := h
  refine MC.mk (cap := INF) ?_
  cases o with
  | nil =>
    · by_cases h0 : ((n) : Int) ≥ (0)
      · by_cases h1 : ((n) : Int) < (8)
        · by_cases h2 : ((psn) : Int) < (0)
          · exact ab ho
          · by_cases h3 : ((psn) : Int) > (2147483647)
            · exact ab ho
            · by_cases h4 : ((s.owner) : Int) = (n)
              · by_cases h5 : ((s.ops n.toNat) : Int) = (op)
                · by_cases h6 : ((s.x) : Int) = (n)
                  · by_cases h7 : ((s.wt) : Int) = (3)
                    · simp only [wroteS, if_pos h6] at hN
                      exact pth (dg s ([iv n, iv op, iv psn, iv n0, iv n1, iv n2, iv n3, iv n4, iv n5, iv n6, iv n7, iv (s.ops n.toNat)] ++ tv t) [(lineV 1 s.line), pt 0 (18 + n.toNat), lineV 19 t.line] [encL s.line, encL t.line]) ⟨[kt .neq 31 (ch 0) (.slice none 0 0), kt .geq 3 (sv 40) (iv 0), kt .lss 3 (sv 40) (iv 8), kf .lss 2 (sv 42) (iv 0), kf .gtr 2 (sv 42) (iv 2147483647), kf .neq 3 (sv 1) (sv 40), kx 30 0 18 40 1, kf .neq 2 (sv 51) (sv 41), kf .neq 3 (sv 0) (sv 40), kt .eql 71 (sv 29) (iv 3)], [], [([2, 1000000], (eLd 1 19 [] 51))]⟩ [(52, [{ args := [.agg (v8 10)], c := 2, foots := [], news := [(2, .row 3 (.lst [sv 43, sv 44, sv 45, sv 46, sv 47, sv 48, sv 49, sv 50]) false)], res := .slice (some ⟨2, 0, none⟩) 8 INF }]), (73, [(eC0 [pt 0 0] 19 [(10, .bool false), (11, .bool false), (12, .bool false), (13, .bool false), (14, .bool false), (15, .bool false), (16, .bool false), (17, .bool false)] 52 2 1 0 1)])] ⟨asNeS u31 rfl, qT (n ≥ 0), qT (n < 8), qF (psn < 0), qF (psn > 2147483647), nF s.owner n, iA u30 z2 rfl rfl, nF ((s.ops n.toNat) : Int) op, nF s.x n, eT s.wt 3, trivial⟩ trivial ⟨ld (ld_ops s (lineV 1 s.line) 73 (q := n.toNat) (by omega)), trivial⟩ ⟨oe (toL52 (s.pa) (hl)), oe hN, trivial⟩ 2 (lockL []) (lockP ++ [sv 40, sv 41, sv 42]) [(0, 0), (19, 3), (18, 2)]
                    · exact ab ho
                  · by_cases h8 : ((s.wt) : Int) = (3)
                    · simp only [wroteS, if_neg h6] at hN
                      exact pth (dg s ([iv n, iv op, iv psn, iv n0, iv n1, iv n2, iv n3, iv n4, iv n5, iv n6, iv n7, iv (s.ops n.toNat)] ++ tv t) [(lineV 1 s.line), pt 0 (18 + n.toNat), lineV 19 t.line] [encL s.line, encL t.line]) ⟨[kt .neq 31 (ch 0) (.slice none 0 0), kt .geq 3 (sv 40) (iv 0), kt .lss 3 (sv 40) (iv 8), kf .lss 2 (sv 42) (iv 0), kf .gtr 2 (sv 42) (iv 2147483647), kf .neq 3 (sv 1) (sv 40), kx 30 0 18 40 1, kf .neq 2 (sv 51) (sv 41), kt .neq 3 (sv 0) (sv 40), kt .eql 71 (sv 29) (iv 3)], [], [([2, 1000000], (eLd 1 19 [] 51))]⟩ [(52, [{ args := [.agg (v8 10)], c := 2, foots := [], news := [(2, .row 3 (.lst [sv 43, sv 44, sv 45, sv 46, sv 47, sv 48, sv 49, sv 50]) false)], res := .slice (some ⟨2, 0, none⟩) 8 INF }]), (73, [(eC0 [pt 0 0] 19 [(1, iv (-1)), (10, .bool false), (11, .bool false), (12, .bool false), (13, .bool false), (14, .bool false), (15, .bool false), (16, .bool false), (17, .bool false)] 52 2 1 0 1)])] ⟨asNeS u31 rfl, qT (n ≥ 0), qT (n < 8), qF (psn < 0), qF (psn > 2147483647), nF s.owner n, iA u30 z2 rfl rfl, nF ((s.ops n.toNat) : Int) op, nT s.x n, eT s.wt 3, trivial⟩ trivial ⟨ld (ld_ops s (lineV 1 s.line) 73 (q := n.toNat) (by omega)), trivial⟩ ⟨oe (toL52 (s.pa) (hl)), oe hN, trivial⟩ 2 (lockL []) (lockP ++ [sv 40, sv 41, sv 42]) [(0, 0), (19, 3), (18, 2)]
                    · exact ab ho
                · exact ab ho
              · exact ab ho
        · exact ab ho
      · exact ab ho
  | cons x l =>
    · by_cases h0 : ((n) : Int) ≥ (0)
      · by_cases h1 : ((n) : Int) < (8)
        · by_cases h2 : ((psn) : Int) < (0)
          · exact ab ho
          · by_cases h3 : ((psn) : Int) > (2147483647)
            · exact ab ho
            · by_cases h4 : ((s.owner) : Int) = (n)
              · by_cases h5 : ((s.ops n.toNat) : Int) = (op)
                · by_cases h6 : ((s.x) : Int) = (n)
                  · by_cases h7 : ((s.wt) : Int) = (3)
                    · simp only [wroteS, if_pos h6] at hN
                      exact pth (dg s ([iv n, iv op, iv psn, iv n0, iv n1, iv n2, iv n3, iv n4, iv n5, iv n6, iv n7, iv (s.ops n.toNat)] ++ tv t) [(lineV 1 s.line), pt 0 (18 + n.toNat), lineV 19 t.line, .slice (some ⟨20, 0, none⟩) (x :: l).length cap, .slice (some ⟨21, 0, none⟩) ([⟨(6), (n0), (0), (0), (0), (psn)⟩, ⟨(6), (n1), (0), (0), (0), (psn)⟩, ⟨(6), (n2), (0), (0), (0), (psn)⟩, ⟨(6), (n3), (0), (0), (0), (psn)⟩, ⟨(6), (n4), (0), (0), (0), (psn)⟩, ⟨(6), (n5), (0), (0), (0), (psn)⟩, ⟨(6), (n6), (0), (0), (0), (psn)⟩, ⟨(6), (n7), (0), (0), (0), (psn)⟩] ++ x :: l : List Ord).length INF] [encL s.line, encL t.line, encOrds (x :: l), encOrds ([⟨(6), (n0), (0), (0), (0), (psn)⟩, ⟨(6), (n1), (0), (0), (0), (psn)⟩, ⟨(6), (n2), (0), (0), (0), (psn)⟩, ⟨(6), (n3), (0), (0), (0), (psn)⟩, ⟨(6), (n4), (0), (0), (0), (psn)⟩, ⟨(6), (n5), (0), (0), (0), (psn)⟩, ⟨(6), (n6), (0), (0), (0), (psn)⟩, ⟨(6), (n7), (0), (0), (0), (psn)⟩] ++ x :: l)]) ⟨[kt .neq 31 (ch 0) (.slice none 0 0), kt .geq 3 (sv 40) (iv 0), kt .lss 3 (sv 40) (iv 8), kf .lss 2 (sv 42) (iv 0), kf .gtr 2 (sv 42) (iv 2147483647), kf .neq 3 (sv 1) (sv 40), kx 30 0 18 40 1, kf .neq 2 (sv 51) (sv 41), kf .neq 3 (sv 0) (sv 40), kt .eql 71 (sv 29) (iv 3)], [], [([2, 1000000], (eLd 1 19 [] 51)), ([28, 28], { args := [.slice (some ⟨18, 0, none⟩) 8 INF, ch 3], c := 21, foots := [⟨18, 0, false, .row 45 (.lst [iv 6, sv 43, iv 0, iv 0, iv 0, sv 42, iv 6, sv 44, iv 0, iv 0, iv 0, sv 42, iv 6, sv 45, iv 0, iv 0, iv 0, sv 42, iv 6, sv 46, iv 0, iv 0, iv 0, sv 42, iv 6, sv 47, iv 0, iv 0, iv 0, sv 42, iv 6, sv 48, iv 0, iv 0, iv 0, sv 42, iv 6, sv 49, iv 0, iv 0, iv 0, sv 42, iv 6, sv 50, iv 0, iv 0, iv 0, sv 42]) false, .dead⟩, ⟨20, 1, true, .orow 45 2 false, .dead⟩], news := [(2, .orow 45 3 false)], res := ch 4 })]⟩ [(52, [{ args := [.agg (v8 10)], c := 2, foots := [], news := [(2, .row 3 (.lst [sv 43, sv 44, sv 45, sv 46, sv 47, sv 48, sv 49, sv 50]) false)], res := .slice (some ⟨2, 0, none⟩) 8 INF }]), (73, [(eC1 [pt 0 0] 19 [(10, .bool false), (11, .bool false), (12, .bool false), (13, .bool false), (14, .bool false), (15, .bool false), (16, .bool false), (17, .bool false)] 52 2 1 0 1 2 (ch 3))])] ⟨asNeS u31 rfl, qT (n ≥ 0), qT (n < 8), qF (psn < 0), qF (psn > 2147483647), nF s.owner n, iA u30 z2 rfl rfl, nF ((s.ops n.toNat) : Int) op, nF s.x n, eT s.wt 3, trivial⟩ trivial ⟨ld (ld_ops s (lineV 1 s.line) 73 (q := n.toNat) (by omega)), ap (app_ords_inf [⟨(6), (n0), (0), (0), (0), (psn)⟩, ⟨(6), (n1), (0), (0), (0), (psn)⟩, ⟨(6), (n2), (0), (0), (0), (psn)⟩, ⟨(6), (n3), (0), (0), (0), (psn)⟩, ⟨(6), (n4), (0), (0), (0), (psn)⟩, ⟨(6), (n5), (0), (0), (0), (psn)⟩, ⟨(6), (n6), (0), (0), (0), (psn)⟩, ⟨(6), (n7), (0), (0), (0), (psn)⟩] x l cap (by simp) hlen), trivial⟩ ⟨oe (toL52 (s.pa) (hl)), oe hN, trivial⟩ 2 (lockL []) (lockP ++ [sv 40, sv 41, sv 42]) [(0, 0), (19, 3), (21, 2)]
                    · exact ab ho
                  · by_cases h8 : ((s.wt) : Int) = (3)
                    · simp only [wroteS, if_neg h6] at hN
                      exact pth (dg s ([iv n, iv op, iv psn, iv n0, iv n1, iv n2, iv n3, iv n4, iv n5, iv n6, iv n7, iv (s.ops n.toNat)] ++ tv t) [(lineV 1 s.line), pt 0 (18 + n.toNat), lineV 19 t.line, .slice (some ⟨20, 0, none⟩) (x :: l).length cap, .slice (some ⟨21, 0, none⟩) ([⟨(6), (n0), (0), (0), (0), (psn)⟩, ⟨(6), (n1), (0), (0), (0), (psn)⟩, ⟨(6), (n2), (0), (0), (0), (psn)⟩, ⟨(6), (n3), (0), (0), (0), (psn)⟩, ⟨(6), (n4), (0), (0), (0), (psn)⟩, ⟨(6), (n5), (0), (0), (0), (psn)⟩, ⟨(6), (n6), (0), (0), (0), (psn)⟩, ⟨(6), (n7), (0), (0), (0), (psn)⟩] ++ x :: l : List Ord).length INF] [encL s.line, encL t.line, encOrds (x :: l), encOrds ([⟨(6), (n0), (0), (0), (0), (psn)⟩, ⟨(6), (n1), (0), (0), (0), (psn)⟩, ⟨(6), (n2), (0), (0), (0), (psn)⟩, ⟨(6), (n3), (0), (0), (0), (psn)⟩, ⟨(6), (n4), (0), (0), (0), (psn)⟩, ⟨(6), (n5), (0), (0), (0), (psn)⟩, ⟨(6), (n6), (0), (0), (0), (psn)⟩, ⟨(6), (n7), (0), (0), (0), (psn)⟩] ++ x :: l)]) ⟨[kt .neq 31 (ch 0) (.slice none 0 0), kt .geq 3 (sv 40) (iv 0), kt .lss 3 (sv 40) (iv 8), kf .lss 2 (sv 42) (iv 0), kf .gtr 2 (sv 42) (iv 2147483647), kf .neq 3 (sv 1) (sv 40), kx 30 0 18 40 1, kf .neq 2 (sv 51) (sv 41), kt .neq 3 (sv 0) (sv 40), kt .eql 71 (sv 29) (iv 3)], [], [([2, 1000000], (eLd 1 19 [] 51)), ([28, 28], { args := [.slice (some ⟨18, 0, none⟩) 8 INF, ch 3], c := 21, foots := [⟨18, 0, false, .row 45 (.lst [iv 6, sv 43, iv 0, iv 0, iv 0, sv 42, iv 6, sv 44, iv 0, iv 0, iv 0, sv 42, iv 6, sv 45, iv 0, iv 0, iv 0, sv 42, iv 6, sv 46, iv 0, iv 0, iv 0, sv 42, iv 6, sv 47, iv 0, iv 0, iv 0, sv 42, iv 6, sv 48, iv 0, iv 0, iv 0, sv 42, iv 6, sv 49, iv 0, iv 0, iv 0, sv 42, iv 6, sv 50, iv 0, iv 0, iv 0, sv 42]) false, .dead⟩, ⟨20, 1, true, .orow 45 2 false, .dead⟩], news := [(2, .orow 45 3 false)], res := ch 4 })]⟩ [(52, [{ args := [.agg (v8 10)], c := 2, foots := [], news := [(2, .row 3 (.lst [sv 43, sv 44, sv 45, sv 46, sv 47, sv 48, sv 49, sv 50]) false)], res := .slice (some ⟨2, 0, none⟩) 8 INF }]), (73, [(eC1 [pt 0 0] 19 [(1, iv (-1)), (10, .bool false), (11, .bool false), (12, .bool false), (13, .bool false), (14, .bool false), (15, .bool false), (16, .bool false), (17, .bool false)] 52 2 1 0 1 2 (ch 3))])] ⟨asNeS u31 rfl, qT (n ≥ 0), qT (n < 8), qF (psn < 0), qF (psn > 2147483647), nF s.owner n, iA u30 z2 rfl rfl, nF ((s.ops n.toNat) : Int) op, nT s.x n, eT s.wt 3, trivial⟩ trivial ⟨ld (ld_ops s (lineV 1 s.line) 73 (q := n.toNat) (by omega)), ap (app_ords_inf [⟨(6), (n0), (0), (0), (0), (psn)⟩, ⟨(6), (n1), (0), (0), (0), (psn)⟩, ⟨(6), (n2), (0), (0), (0), (psn)⟩, ⟨(6), (n3), (0), (0), (0), (psn)⟩, ⟨(6), (n4), (0), (0), (0), (psn)⟩, ⟨(6), (n5), (0), (0), (0), (psn)⟩, ⟨(6), (n6), (0), (0), (0), (psn)⟩, ⟨(6), (n7), (0), (0), (0), (psn)⟩] x l cap (by simp) hlen), trivial⟩ ⟨oe (toL52 (s.pa) (hl)), oe hN, trivial⟩ 2 (lockL []) (lockP ++ [sv 40, sv 41, sv 42]) [(0, 0), (19, 3), (21, 2)]
                    · exact ab ho
                · exact ab ho
              · exact ab ho
        · exact ab ho
      · exact ab ho
end Go.Proofs.Ytjpgnjaobfbojaa

import Derived.Test.YtjpgnjaobfbojaaQh
namespace Go.Proofs.Ytjpgnjaobfbojaa
open Go.Sx
set_option maxRecDepth 20000
theorem want_out {s : St} {n m : Int} (ho : ¬ ((0 ≤ n ∧ n < 8) ∧ (m = 1 ∨ m = 2))) : MC 24 [.int .i64 n, .int .i64 m] s s [] := by
  refine MC.mk (cap := 0) ?_
  · by_cases h0 : ((n) : Int) ≥ (0)
    · by_cases h1 : ((n) : Int) < (8)
      · by_cases h2 : ((m) : Int) = (1)
        · exact ab ho
        · by_cases h3 : ((m) : Int) = (2)
          · exact ab ho
          · skip
            exact pth (dg s [iv n, iv m] [(lineV 1 s.line)] [encL s.line]) ⟨[kt .neq 31 (ch 0) (.slice none 0 0), kt .geq 3 (sv 40) (iv 0), kt .lss 3 (sv 40) (iv 8), kt .neq 40 (sv 41) (iv 1), kt .neq 40 (sv 41) (iv 2)], [], []⟩ [] ⟨asNeS u31 rfl, qT (n ≥ 0), qT (n < 8), nT m 1, nT m 2, trivial⟩ trivial trivial trivial 2 (lockL []) (lockP ++ [sv 40, sv 41]) [(0, 0), (1, 3)]
      · skip
        exact pth (dg s [iv n, iv m] [(lineV 1 s.line)] [encL s.line]) ⟨[kt .neq 31 (ch 0) (.slice none 0 0), kt .geq 3 (sv 40) (iv 0), kf .lss 3 (sv 40) (iv 8)], [], []⟩ [] ⟨asNeS u31 rfl, qT (n ≥ 0), qF (n < 8), trivial⟩ trivial trivial trivial 2 (lockL []) (lockP ++ [sv 40, sv 41]) [(0, 0), (1, 3)]
    · skip
      exact pth (dg s [iv n, iv m] [(lineV 1 s.line)] [encL s.line]) ⟨[kt .neq 31 (ch 0) (.slice none 0 0), kf .geq 3 (sv 40) (iv 0)], [], []⟩ [] ⟨asNeS u31 rfl, qF (n ≥ 0), trivial⟩ trivial trivial trivial 2 (lockL []) (lockP ++ [sv 40, sv 41]) [(0, 0), (1, 3)]
theorem want_1 {s t : St} {n m : Int} {o : List Ord} (hn : 0 ≤ n ∧ n < 8) (hm : m = 1) (h : MC 65 [.agg #[.int .i64 n, .int .i64 1]] s t o) : MC 24 [.int .i64 n, .int .i64 m] s t o := by
  have ho : 0 ≤ n ∧ n < 8 ∧ m = 1 := ⟨hn.1, hn.2, hm⟩
  obtain ⟨cap, hcap, hN⟩ := h
  refine MC.mk (cap := cap) ?_
  cases o with
  | nil =>
    · by_cases h0 : ((n) : Int) ≥ (0)
      · by_cases h1 : ((n) : Int) < (8)
        · by_cases h2 : ((m) : Int) = (1)
          · skip
            exact pth (dg s ([iv n, iv m] ++ tv t) [(lineV 1 s.line), lineV 2 t.line] [encL s.line, encL t.line]) ⟨[kt .neq 31 (ch 0) (.slice none 0 0), kt .geq 3 (sv 40) (iv 0), kt .lss 3 (sv 40) (iv 8), kf .neq 40 (sv 41) (iv 1), kf .eql 40 (sv 41) (iv 2)], [], []⟩ [(65, [(eC0 [pt 0 0, .agg #[sv 40, iv 1]] 2 [] 42 1 1 0 1)])] ⟨asNeS u31 rfl, qT (n ≥ 0), qT (n < 8), nF m 1, eF m 2, trivial⟩ trivial trivial ⟨oe hN, trivial⟩ 2 (lockL []) (lockP ++ [sv 40, sv 41]) [(0, 0), (2, 3)]
          · by_cases h3 : ((m) : Int) = (2)
            · exact ab ho
            · exact ab ho
        · exact ab ho
      · exact ab ho
  | cons x l =>
    · by_cases h0 : ((n) : Int) ≥ (0)
      · by_cases h1 : ((n) : Int) < (8)
        · by_cases h2 : ((m) : Int) = (1)
          · skip
            exact pth (dg s ([iv n, iv m] ++ tv t) [(lineV 1 s.line), lineV 2 t.line, .slice (some ⟨3, 0, none⟩) (x :: l).length cap] [encL s.line, encL t.line, encOrds (x :: l)]) ⟨[kt .neq 31 (ch 0) (.slice none 0 0), kt .geq 3 (sv 40) (iv 0), kt .lss 3 (sv 40) (iv 8), kf .neq 40 (sv 41) (iv 1), kf .eql 40 (sv 41) (iv 2)], [], []⟩ [(65, [(eC1 [pt 0 0, .agg #[sv 40, iv 1]] 2 [] 42 1 1 0 1 2 (ch 2))])] ⟨asNeS u31 rfl, qT (n ≥ 0), qT (n < 8), nF m 1, eF m 2, trivial⟩ trivial trivial ⟨oe hN, trivial⟩ 2 (lockL []) (lockP ++ [sv 40, sv 41]) [(0, 0), (2, 3), (3, 2)]
          · by_cases h3 : ((m) : Int) = (2)
            · exact ab ho
            · exact ab ho
        · exact ab ho
      · exact ab ho
theorem want_2 {s t : St} {n m : Int} {o : List Ord} (hn : 0 ≤ n ∧ n < 8) (hm : m = 2) (h : MC 65 [.agg #[.int .i64 n, .int .i64 2]] s t o) : MC 24 [.int .i64 n, .int .i64 m] s t o := by
  have ho : 0 ≤ n ∧ n < 8 ∧ m = 2 := ⟨hn.1, hn.2, hm⟩
  obtain ⟨cap, hcap, hN⟩ := h
  refine MC.mk (cap := cap) ?_
  cases o with
  | nil =>
    · by_cases h0 : ((n) : Int) ≥ (0)
      · by_cases h1 : ((n) : Int) < (8)
        · by_cases h2 : ((m) : Int) = (1)
          · exact ab ho
          · by_cases h3 : ((m) : Int) = (2)
            · skip
              exact pth (dg s ([iv n, iv m] ++ tv t) [(lineV 1 s.line), lineV 2 t.line] [encL s.line, encL t.line]) ⟨[kt .neq 31 (ch 0) (.slice none 0 0), kt .geq 3 (sv 40) (iv 0), kt .lss 3 (sv 40) (iv 8), kt .neq 40 (sv 41) (iv 1), kf .neq 40 (sv 41) (iv 2), kt .eql 40 (sv 41) (iv 2)], [], []⟩ [(65, [(eC0 [pt 0 0, .agg #[sv 40, iv 2]] 2 [] 42 1 1 0 1)])] ⟨asNeS u31 rfl, qT (n ≥ 0), qT (n < 8), nT m 1, nF m 2, eT m 2, trivial⟩ trivial trivial ⟨oe hN, trivial⟩ 2 (lockL []) (lockP ++ [sv 40, sv 41]) [(0, 0), (2, 3)]
            · exact ab ho
        · exact ab ho
      · exact ab ho
  | cons x l =>
    · by_cases h0 : ((n) : Int) ≥ (0)
      · by_cases h1 : ((n) : Int) < (8)
        · by_cases h2 : ((m) : Int) = (1)
          · exact ab ho
          · by_cases h3 : ((m) : Int) = (2)
            · skip
              exact pth (dg s ([iv n, iv m] ++ tv t) [(lineV 1 s.line), lineV 2 t.line, .slice (some ⟨3, 0, none⟩) (x :: l).length cap] [encL s.line, encL t.line, encOrds (x :: l)]) ⟨[kt .neq 31 (ch 0) (.slice none 0 0), kt .geq 3 (sv 40) (iv 0), kt .lss 3 (sv 40) (iv 8), kt .neq 40 (sv 41) (iv 1), kf .neq 40 (sv 41) (iv 2), kt .eql 40 (sv 41) (iv 2)], [], []⟩ [(65, [(eC1 [pt 0 0, .agg #[sv 40, iv 2]] 2 [] 42 1 1 0 1 2 (ch 2))])] ⟨asNeS u31 rfl, qT (n ≥ 0), qT (n < 8), nT m 1, nF m 2, eT m 2, trivial⟩ trivial trivial ⟨oe hN, trivial⟩ 2 (lockL []) (lockP ++ [sv 40, sv 41]) [(0, 0), (2, 3), (3, 2)]
            · exact ab ho
        · exact ab ho
      · exact ab ho
theorem clean_out {s : St} {n : Int} (ho : ¬ (0 ≤ n ∧ n < 8)) : MC 25 [.int .i64 n] s s [] := by
  refine MC.mk (cap := 0) ?_
  · by_cases h0 : ((n) : Int) ≥ (0)
    · by_cases h1 : ((n) : Int) < (8)
      · exact ab ho
      · skip
        exact pth (dg s [iv n] [(lineV 1 s.line)] [encL s.line]) ⟨[kt .neq 31 (ch 0) (.slice none 0 0), kt .geq 3 (sv 40) (iv 0), kf .lss 3 (sv 40) (iv 8)], [], []⟩ [] ⟨asNeS u31 rfl, qT (n ≥ 0), qF (n < 8), trivial⟩ trivial trivial trivial 2 (lockL []) (lockP ++ [sv 40]) [(0, 0), (1, 3)]
    · skip
      exact pth (dg s [iv n] [(lineV 1 s.line)] [encL s.line]) ⟨[kt .neq 31 (ch 0) (.slice none 0 0), kf .geq 3 (sv 40) (iv 0)], [], []⟩ [] ⟨asNeS u31 rfl, qF (n ≥ 0), trivial⟩ trivial trivial trivial 2 (lockL []) (lockP ++ [sv 40]) [(0, 0), (1, 3)]
theorem clean_in {s t : St} {n : Int} {o : List Ord} (ho : 0 ≤ n ∧ n < 8) (h : MC 65 [.agg #[.int .i64 n, .int .i64 3]] s t o) : MC 25 [.int .i64 n] s t o := by
  obtain ⟨cap, hcap, hN⟩ := h
  refine MC.mk (cap := cap) ?_
  cases o with
  | nil =>
    · by_cases h0 : ((n) : Int) ≥ (0)
      · by_cases h1 : ((n) : Int) < (8)
        · skip
          exact pth (dg s ([iv n] ++ tv t) [(lineV 1 s.line), lineV 2 t.line] [encL s.line, encL t.line]) ⟨[kt .neq 31 (ch 0) (.slice none 0 0), kt .geq 3 (sv 40) (iv 0), kt .lss 3 (sv 40) (iv 8)], [], []⟩ [(65, [(eC0 [pt 0 0, .agg #[sv 40, iv 3]] 2 [] 41 1 1 0 1)])] ⟨asNeS u31 rfl, qT (n ≥ 0), qT (n < 8), trivial⟩ trivial trivial ⟨oe hN, trivial⟩ 2 (lockL []) (lockP ++ [sv 40]) [(0, 0), (2, 3)]
        · exact ab ho
      · exact ab ho
  | cons x l =>
    · by_cases h0 : ((n) : Int) ≥ (0)
      · by_cases h1 : ((n) : Int) < (8)
        · skip
          exact pth (dg s ([iv n] ++ tv t) [(lineV 1 s.line), lineV 2 t.line, .slice (some ⟨3, 0, none⟩) (x :: l).length cap] [encL s.line, encL t.line, encOrds (x :: l)]) ⟨[kt .neq 31 (ch 0) (.slice none 0 0), kt .geq 3 (sv 40) (iv 0), kt .lss 3 (sv 40) (iv 8)], [], []⟩ [(65, [(eC1 [pt 0 0, .agg #[sv 40, iv 3]] 2 [] 41 1 1 0 1 2 (ch 2))])] ⟨asNeS u31 rfl, qT (n ≥ 0), qT (n < 8), trivial⟩ trivial trivial ⟨oe hN, trivial⟩ 2 (lockL []) (lockP ++ [sv 40]) [(0, 0), (2, 3), (3, 2)]
        · exact ab ho
      · exact ab ho
def allOff (f : Nat → Bool) : Bool := (f 0 == false) && ((f 1 == false) && ((f 2 == false) && ((f 3 == false) && ((f 4 == false) && ((f 5 == false) && ((f 6 == false) && ((f 7 == false) && true)))))))
def leftS (s : St) (n : Int) : St := { s with go := upd s.go n.toNat false, sh := upd s.sh n.toNat false, ops := upd s.ops n.toNat 0 }
theorem left_more {s : St} {n : Int} (ho : 0 ≤ n ∧ n < 8) (hg : allOff (upd s.go n.toNat false) = false) : MC 66 [.int .i64 n] s (leftS s n) [] := by
  refine MC.mk (cap := 0) ?_
  · skip
    exact pth (dg s ([iv n] ++ b8 (upd s.go n.toNat false) ++ b8 (upd s.sh n.toNat false) ++ n8 (upd s.ops n.toNat (0))) [(lineV 1 s.line), pt 0 (30 + n.toNat), pt 0 (2 + n.toNat), pt 0 (18 + n.toNat)] [encL s.line]) ⟨[kx 70 0 30 40 1, kx 70 0 2 40 2, kx 30 0 18 40 3, kt .neq 70 (.agg (v8 41)) (.agg #[.bool false, .bool false, .bool false, .bool false, .bool false, .bool false, .bool false, .bool false])], [], [([4, 1000001], (eSt 1 (.bool false) 2 [] (p8 30 41))), ([4, 1000001], (eSt 2 (.bool false) 2 (p8 30 41) (p8 2 49 ++ p8 30 41))), ([2, 1000001], (eSt 3 (iv 0) 2 (p8 2 49 ++ p8 30 41) (p8 2 49 ++ p8 18 57 ++ p8 30 41)))]⟩ [] ⟨iA u70 z4 rfl rfl, iA u70 z4 rfl rfl, iA u30 z2 rfl rfl, asNeA (c := false) (Eq.trans (b := some (allOff (upd s.go n.toNat false))) (by kernel_rfl) (congrArg some hg)) rfl, trivial⟩ trivial ⟨st (st_go s (lineV 1 s.line) 73 (q := n.toNat) (by omega) false), st (st_sh { s with go := (upd s.go n.toNat false) : St } (lineV 1 s.line) 73 (q := n.toNat) (by omega) false), st (st_ops { s with sh := (upd s.sh n.toNat false), go := (upd s.go n.toNat false) : St } (lineV 1 s.line) 73 (q := n.toNat) (by omega) (0)), trivial⟩ trivial 2 (lockL []) (lockP ++ [sv 40]) [(0, 0), (1, 3)]
theorem left_all {s t : St} {n : Int} {o : List Ord} (ho : 0 ≤ n ∧ n < 8) (hg : allOff (upd s.go n.toNat false) = true) (h : MC 68 [] (leftS s n) t o) : MC 66 [.int .i64 n] s t o := by
  obtain ⟨cap, hcap, hN⟩ := h
  refine MC.mk (cap := cap) ?_
  cases o with
  | nil =>
    · skip
      exact pth (dg s ([iv n] ++ b8 (upd s.go n.toNat false) ++ b8 (upd s.sh n.toNat false) ++ n8 (upd s.ops n.toNat (0)) ++ tv t) [(lineV 1 s.line), pt 0 (30 + n.toNat), pt 0 (2 + n.toNat), pt 0 (18 + n.toNat), lineV 2 t.line] [encL s.line, encL t.line]) ⟨[kx 70 0 30 40 1, kx 70 0 2 40 2, kx 30 0 18 40 3, kf .neq 70 (.agg (v8 41)) (.agg #[.bool false, .bool false, .bool false, .bool false, .bool false, .bool false, .bool false, .bool false])], [], [([4, 1000001], (eSt 1 (.bool false) 2 [] (p8 30 41))), ([4, 1000001], (eSt 2 (.bool false) 2 (p8 30 41) (p8 2 49 ++ p8 30 41))), ([2, 1000001], (eSt 3 (iv 0) 2 (p8 2 49 ++ p8 30 41) (p8 2 49 ++ p8 18 57 ++ p8 30 41)))]⟩ [(68, [(eC0 [pt 0 0] 2 (p8 2 49 ++ p8 18 57 ++ p8 30 41) 65 4 1 0 1)])] ⟨iA u70 z4 rfl rfl, iA u70 z4 rfl rfl, iA u30 z2 rfl rfl, asNeA (c := true) (Eq.trans (b := some (allOff (upd s.go n.toNat false))) (by kernel_rfl) (congrArg some hg)) rfl, trivial⟩ trivial ⟨st (st_go s (lineV 1 s.line) 73 (q := n.toNat) (by omega) false), st (st_sh { s with go := (upd s.go n.toNat false) : St } (lineV 1 s.line) 73 (q := n.toNat) (by omega) false), st (st_ops { s with sh := (upd s.sh n.toNat false), go := (upd s.go n.toNat false) : St } (lineV 1 s.line) 73 (q := n.toNat) (by omega) (0)), trivial⟩ ⟨oe hN, trivial⟩ 2 (lockL []) (lockP ++ [sv 40]) [(0, 0), (2, 3)]
  | cons x l =>
    · skip
      exact pth (dg s ([iv n] ++ b8 (upd s.go n.toNat false) ++ b8 (upd s.sh n.toNat false) ++ n8 (upd s.ops n.toNat (0)) ++ tv t) [(lineV 1 s.line), pt 0 (30 + n.toNat), pt 0 (2 + n.toNat), pt 0 (18 + n.toNat), lineV 2 t.line, .slice (some ⟨3, 0, none⟩) (x :: l).length cap] [encL s.line, encL t.line, encOrds (x :: l)]) ⟨[kx 70 0 30 40 1, kx 70 0 2 40 2, kx 30 0 18 40 3, kf .neq 70 (.agg (v8 41)) (.agg #[.bool false, .bool false, .bool false, .bool false, .bool false, .bool false, .bool false, .bool false])], [], [([4, 1000001], (eSt 1 (.bool false) 2 [] (p8 30 41))), ([4, 1000001], (eSt 2 (.bool false) 2 (p8 30 41) (p8 2 49 ++ p8 30 41))), ([2, 1000001], (eSt 3 (iv 0) 2 (p8 2 49 ++ p8 30 41) (p8 2 49 ++ p8 18 57 ++ p8 30 41)))]⟩ [(68, [(eC1 [pt 0 0] 2 (p8 2 49 ++ p8 18 57 ++ p8 30 41) 65 4 1 0 1 2 (ch 5))])] ⟨iA u70 z4 rfl rfl, iA u70 z4 rfl rfl, iA u30 z2 rfl rfl, asNeA (c := true) (Eq.trans (b := some (allOff (upd s.go n.toNat false))) (by kernel_rfl) (congrArg some hg)) rfl, trivial⟩ trivial ⟨st (st_go s (lineV 1 s.line) 73 (q := n.toNat) (by omega) false), st (st_sh { s with go := (upd s.go n.toNat false) : St } (lineV 1 s.line) 73 (q := n.toNat) (by omega) false), st (st_ops { s with sh := (upd s.sh n.toNat false), go := (upd s.go n.toNat false) : St } (lineV 1 s.line) 73 (q := n.toNat) (by omega) (0)), trivial⟩ ⟨oe hN, trivial⟩ 2 (lockL []) (lockP ++ [sv 40]) [(0, 0), (2, 3), (3, 2)]
theorem gone_out {s : St} {n op : Int} (ho : ¬ ((0 ≤ n ∧ n < 8) ∧ s.wt = 1 ∧ op = s.op ∧ s.go n.toNat = true)) : MC 30 [.int .i64 n, .int .i64 op] s s [] := by
  refine MC.mk (cap := 0) ?_
  · by_cases h0 : ((n) : Int) ≥ (0)
    · by_cases h1 : ((n) : Int) < (8)
      · by_cases h2 : ((s.wt) : Int) = (1)
        · by_cases h3 : ((op) : Int) = (s.op)
          · by_cases h4 : s.go n.toNat = true
            · exact ab ho
            · skip
              exact pth (dg s [iv n, iv op, .bool (s.go n.toNat)] [(lineV 1 s.line), pt 0 (30 + n.toNat)] [encL s.line]) ⟨[kt .neq 31 (ch 0) (.slice none 0 0), kt .geq 3 (sv 40) (iv 0), kt .lss 3 (sv 40) (iv 8), kf .neq 71 (sv 29) (iv 1), kf .neq 2 (sv 41) (sv 39), kx 70 0 30 40 1, (.un .not (sv 42), .bool true)], [], [([4, 1000000], (eLd 1 2 [] 42))]⟩ [] ⟨asNeS u31 rfl, qT (n ≥ 0), qT (n < 8), nF s.wt 1, nF op s.op, iA u70 z4 rfl rfl, asB (c := !(s.go n.toNat)) (by kernel_rfl) (by rw [show s.go n.toNat = false from Bool.eq_false_iff.2 h4]; rfl), trivial⟩ trivial ⟨ld (ld_go s (lineV 1 s.line) 73 (q := n.toNat) (by omega)), trivial⟩ trivial 2 (lockL []) (lockP ++ [sv 40, sv 41]) [(0, 0), (1, 3)]
          · skip
            exact pth (dg s [iv n, iv op] [(lineV 1 s.line)] [encL s.line]) ⟨[kt .neq 31 (ch 0) (.slice none 0 0), kt .geq 3 (sv 40) (iv 0), kt .lss 3 (sv 40) (iv 8), kf .neq 71 (sv 29) (iv 1), kt .neq 2 (sv 41) (sv 39)], [], []⟩ [] ⟨asNeS u31 rfl, qT (n ≥ 0), qT (n < 8), nF s.wt 1, nT op s.op, trivial⟩ trivial trivial trivial 2 (lockL []) (lockP ++ [sv 40, sv 41]) [(0, 0), (1, 3)]
        · skip
          exact pth (dg s [iv n, iv op] [(lineV 1 s.line)] [encL s.line]) ⟨[kt .neq 31 (ch 0) (.slice none 0 0), kt .geq 3 (sv 40) (iv 0), kt .lss 3 (sv 40) (iv 8), kt .neq 71 (sv 29) (iv 1)], [], []⟩ [] ⟨asNeS u31 rfl, qT (n ≥ 0), qT (n < 8), nT s.wt 1, trivial⟩ trivial trivial trivial 2 (lockL []) (lockP ++ [sv 40, sv 41]) [(0, 0), (1, 3)]
      · skip
        exact pth (dg s [iv n, iv op] [(lineV 1 s.line)] [encL s.line]) ⟨[kt .neq 31 (ch 0) (.slice none 0 0), kt .geq 3 (sv 40) (iv 0), kf .lss 3 (sv 40) (iv 8)], [], []⟩ [] ⟨asNeS u31 rfl, qT (n ≥ 0), qF (n < 8), trivial⟩ trivial trivial trivial 2 (lockL []) (lockP ++ [sv 40, sv 41]) [(0, 0), (1, 3)]
    · skip
      exact pth (dg s [iv n, iv op] [(lineV 1 s.line)] [encL s.line]) ⟨[kt .neq 31 (ch 0) (.slice none 0 0), kf .geq 3 (sv 40) (iv 0)], [], []⟩ [] ⟨asNeS u31 rfl, qF (n ≥ 0), trivial⟩ trivial trivial trivial 2 (lockL []) (lockP ++ [sv 40, sv 41]) [(0, 0), (1, 3)]
theorem gone_in {s t : St} {n op : Int} {o : List Ord} (ho : (0 ≤ n ∧ n < 8) ∧ s.wt = 1 ∧ op = s.op ∧ s.go n.toNat = true) (h : MC 66 [.int .i64 n] s t o) : MC 30 [.int .i64 n, .int .i64 op] s t o := by
  obtain ⟨cap, hcap, hN⟩ := h
  refine MC.mk (cap := cap) ?_
  cases o with
  | nil =>
    · by_cases h0 : ((n) : Int) ≥ (0)
      · by_cases h1 : ((n) : Int) < (8)
        · by_cases h2 : ((s.wt) : Int) = (1)
          · by_cases h3 : ((op) : Int) = (s.op)
            · by_cases h4 : s.go n.toNat = true
              · skip
                exact pth (dg s ([iv n, iv op, .bool (s.go n.toNat)] ++ tv t) [(lineV 1 s.line), pt 0 (30 + n.toNat), lineV 2 t.line] [encL s.line, encL t.line]) ⟨[kt .neq 31 (ch 0) (.slice none 0 0), kt .geq 3 (sv 40) (iv 0), kt .lss 3 (sv 40) (iv 8), kf .neq 71 (sv 29) (iv 1), kf .neq 2 (sv 41) (sv 39), kx 70 0 30 40 1, (.un .not (sv 42), .bool false)], [], [([4, 1000000], (eLd 1 2 [] 42))]⟩ [(66, [(eC0 [pt 0 0, sv 40] 2 [] 43 2 1 0 1)])] ⟨asNeS u31 rfl, qT (n ≥ 0), qT (n < 8), nF s.wt 1, nF op s.op, iA u70 z4 rfl rfl, asB (c := !(s.go n.toNat)) (by kernel_rfl) (by rw [show s.go n.toNat = true from h4]; rfl), trivial⟩ trivial ⟨ld (ld_go s (lineV 1 s.line) 73 (q := n.toNat) (by omega)), trivial⟩ ⟨oe hN, trivial⟩ 2 (lockL []) (lockP ++ [sv 40, sv 41]) [(0, 0), (2, 3)]
              · exact ab ho
            · exact ab ho
          · exact ab ho
        · exact ab ho
      · exact ab ho
  | cons x l =>
    · by_cases h0 : ((n) : Int) ≥ (0)
      · by_cases h1 : ((n) : Int) < (8)
        · by_cases h2 : ((s.wt) : Int) = (1)
          · by_cases h3 : ((op) : Int) = (s.op)
            · by_cases h4 : s.go n.toNat = true
              · skip
                exact pth (dg s ([iv n, iv op, .bool (s.go n.toNat)] ++ tv t) [(lineV 1 s.line), pt 0 (30 + n.toNat), lineV 2 t.line, .slice (some ⟨3, 0, none⟩) (x :: l).length cap] [encL s.line, encL t.line, encOrds (x :: l)]) ⟨[kt .neq 31 (ch 0) (.slice none 0 0), kt .geq 3 (sv 40) (iv 0), kt .lss 3 (sv 40) (iv 8), kf .neq 71 (sv 29) (iv 1), kf .neq 2 (sv 41) (sv 39), kx 70 0 30 40 1, (.un .not (sv 42), .bool false)], [], [([4, 1000000], (eLd 1 2 [] 42))]⟩ [(66, [(eC1 [pt 0 0, sv 40] 2 [] 43 2 1 0 1 2 (ch 3))])] ⟨asNeS u31 rfl, qT (n ≥ 0), qT (n < 8), nF s.wt 1, nF op s.op, iA u70 z4 rfl rfl, asB (c := !(s.go n.toNat)) (by kernel_rfl) (by rw [show s.go n.toNat = true from h4]; rfl), trivial⟩ trivial ⟨ld (ld_go s (lineV 1 s.line) 73 (q := n.toNat) (by omega)), trivial⟩ ⟨oe hN, trivial⟩ 2 (lockL []) (lockP ++ [sv 40, sv 41]) [(0, 0), (2, 3), (3, 2)]
              · exact ab ho
            · exact ab ho
          · exact ab ho
        · exact ab ho
      · exact ab ho
def gotA (s : St) (n op : Int) : St := { s with sh := upd s.sh n.toNat true, ops := upd s.ops n.toNat op }
def gotB (s : St) (op : Int) : St := { s with sh := upd s.sh s.su.toNat true, ops := upd s.ops s.su.toNat op, x := -1 }
def gotC (s : St) (n op : Int) : St := { s with sh := fun _ => false, x := n, owner := n, ops := upd (fun _ => 0) n.toNat op }
def gotS (s : St) (n op : Int) : St :=
  if s.hk = 1 then
    (if s.su = -1 then gotA s n op else if s.x = s.su then gotA (gotB s op) n op else if s.sh s.su.toNat = true then gotA (gotB s op) n op else gotA s n op)
  else if s.su = -1 then gotC s n op else if s.su = s.owner then gotC { s with pa := upd s.pa s.su.toNat true } n op else gotC s n op
theorem got_out {s : St} {n op : Int} (_hi : s.wt = 2 → Hand s) (_hv : -1 ≤ s.su ∧ s.su < 8) (ho : ¬ (s.wt = 2 ∧ op = s.op ∧ n = s.hn)) : MC 31 [.int .i64 n, .int .i64 op] s s [] := by
  refine MC.mk (cap := 0) ?_
  · by_cases h0 : ((s.wt) : Int) = (2)
    · by_cases h1 : ((op) : Int) = (s.op)
      · by_cases h2 : ((n) : Int) = (s.hn)
        · by_cases h3 : ((s.hk) : Int) = (1)
          · by_cases h4 : ((s.su) : Int) = (-1)
            · exact ab ho
            · by_cases h5 : ((s.x) : Int) = (s.su)
              · exact ab ho
              · by_cases h6 : s.sh s.su.toNat = true
                · exact ab ho
                · exact ab ho
          · by_cases h7 : ((s.su) : Int) = (-1)
            · exact ab ho
            · by_cases h8 : ((s.su) : Int) = (s.owner)
              · exact ab ho
              · exact ab ho
        · skip
          exact pth (dg s [iv n, iv op] [(lineV 1 s.line)] [encL s.line]) ⟨[kt .neq 31 (ch 0) (.slice none 0 0), kf .neq 71 (sv 29) (iv 2), kf .neq 2 (sv 41) (sv 39), kt .neq 3 (sv 40) (sv 27)], [], []⟩ [] ⟨asNeS u31 rfl, nF s.wt 2, nF op s.op, nT n s.hn, trivial⟩ trivial trivial trivial 2 (lockL []) (lockP ++ [sv 40, sv 41]) [(0, 0), (1, 3)]
      · skip
        exact pth (dg s [iv n, iv op] [(lineV 1 s.line)] [encL s.line]) ⟨[kt .neq 31 (ch 0) (.slice none 0 0), kf .neq 71 (sv 29) (iv 2), kt .neq 2 (sv 41) (sv 39)], [], []⟩ [] ⟨asNeS u31 rfl, nF s.wt 2, nT op s.op, trivial⟩ trivial trivial trivial 2 (lockL []) (lockP ++ [sv 40, sv 41]) [(0, 0), (1, 3)]
    · skip
      exact pth (dg s [iv n, iv op] [(lineV 1 s.line)] [encL s.line]) ⟨[kt .neq 31 (ch 0) (.slice none 0 0), kt .neq 71 (sv 29) (iv 2)], [], []⟩ [] ⟨asNeS u31 rfl, nT s.wt 2, trivial⟩ trivial trivial trivial 2 (lockL []) (lockP ++ [sv 40, sv 41]) [(0, 0), (1, 3)]
theorem got_in {s t : St} {n op : Int} {o : List Ord} (hi : 0 ≤ s.hn ∧ s.hn < 8) (hv : -1 ≤ s.su ∧ s.su < 8) (ho : s.wt = 2 ∧ op = s.op ∧ n = s.hn) (h : MC 73 [] (gotS s n op) t o) : MC 31 [.int .i64 n, .int .i64 op] s t o := by
  obtain ⟨cap, hcap, hN⟩ := h
  refine MC.mk (cap := cap) ?_
  cases o with
  | nil =>
    · by_cases h0 : ((s.wt) : Int) = (2)
      · by_cases h1 : ((op) : Int) = (s.op)
        · by_cases h2 : ((n) : Int) = (s.hn)
          · by_cases h3 : ((s.hk) : Int) = (1)
            · by_cases h4 : ((s.su) : Int) = (-1)
              · simp only [gotS, if_pos h3, if_pos h4] at hN
                exact pth (dg s ([iv n, iv op] ++ b8 (upd s.sh n.toNat true) ++ n8 (upd s.ops n.toNat (op)) ++ tv t) [(lineV 1 s.line), pt 0 (2 + n.toNat), pt 0 (18 + n.toNat), lineV 2 t.line] [encL s.line, encL t.line]) ⟨[kt .neq 31 (ch 0) (.slice none 0 0), kf .neq 71 (sv 29) (iv 2), kf .neq 2 (sv 41) (sv 39), kf .neq 3 (sv 40) (sv 27), kt .eql 32 (sv 28) (iv 1), kf .neq 3 (sv 38) (iv (-1)), kx 70 0 2 40 1, kx 30 0 18 40 2], [], [([4, 1000001], (eSt 1 (.bool true) 2 [] (p8 2 42))), ([2, 1000001], (eSt 2 (sv 41) 2 (p8 2 42) (p8 2 42 ++ p8 18 50)))]⟩ [(73, [(eC0 [pt 0 0] 2 (p8 2 42 ++ p8 18 50) 58 3 1 0 1)])] ⟨asNeS u31 rfl, nF s.wt 2, nF op s.op, nF n s.hn, eT s.hk 1, nF s.su (-1), iA u70 z4 rfl rfl, iA u30 z2 rfl rfl, trivial⟩ trivial ⟨st (st_sh s (lineV 1 s.line) 73 (q := n.toNat) (by omega) true), st (st_ops { s with sh := (upd s.sh n.toNat true) : St } (lineV 1 s.line) 73 (q := n.toNat) (by omega) (op)), trivial⟩ ⟨oe hN, trivial⟩ 2 (lockL []) (lockP ++ [sv 40, sv 41]) [(0, 0), (2, 3)]
              · by_cases h5 : ((s.x) : Int) = (s.su)
                · simp only [gotS, if_pos h3, if_neg h4, if_pos h5] at hN
                  exact pth (dg s ([iv n, iv op] ++ b8 (upd s.sh s.su.toNat true) ++ n8 (upd s.ops s.su.toNat (op)) ++ b8 (upd (upd s.sh s.su.toNat true) n.toNat true) ++ n8 (upd (upd s.ops s.su.toNat (op)) n.toNat (op)) ++ tv t) [(lineV 1 s.line), pt 0 (2 + s.su.toNat), pt 0 (18 + s.su.toNat), pt 0 (2 + n.toNat), pt 0 (18 + n.toNat), lineV 2 t.line] [encL s.line, encL t.line]) ⟨[kt .neq 31 (ch 0) (.slice none 0 0), kf .neq 71 (sv 29) (iv 2), kf .neq 2 (sv 41) (sv 39), kf .neq 3 (sv 40) (sv 27), kt .eql 32 (sv 28) (iv 1), kt .neq 3 (sv 38) (iv (-1)), kt .eql 3 (sv 0) (sv 38), kx 70 0 2 38 1, kx 30 0 18 38 2, kx 70 0 2 40 3, kx 30 0 18 40 4], [], [([4, 1000001], (eSt 1 (.bool true) 2 [] (p8 2 42))), ([2, 1000001], (eSt 2 (sv 41) 2 (p8 2 42) (p8 2 42 ++ p8 18 50))), ([4, 1000001], (eSt 3 (.bool true) 2 ([(0, iv (-1))] ++ p8 2 42 ++ p8 18 50) ([(0, iv (-1))] ++ p8 2 58 ++ p8 18 50))), ([2, 1000001], (eSt 4 (sv 41) 2 ([(0, iv (-1))] ++ p8 2 58 ++ p8 18 50) ([(0, iv (-1))] ++ p8 2 58 ++ p8 18 66)))]⟩ [(73, [(eC0 [pt 0 0] 2 ([(0, iv (-1))] ++ p8 2 58 ++ p8 18 66) 74 5 1 0 1)])] ⟨asNeS u31 rfl, nF s.wt 2, nF op s.op, nF n s.hn, eT s.hk 1, nT s.su (-1), eT s.x s.su, iA u70 z4 rfl rfl, iA u30 z2 rfl rfl, iA u70 z4 rfl rfl, iA u30 z2 rfl rfl, trivial⟩ trivial ⟨st (st_sh s (lineV 1 s.line) 73 (q := s.su.toNat) (by omega) true), st (st_ops { s with sh := (upd s.sh s.su.toNat true) : St } (lineV 1 s.line) 73 (q := s.su.toNat) (by omega) (op)), st (st_sh { s with x := (-1), sh := (upd s.sh s.su.toNat true), ops := (upd s.ops s.su.toNat (op)) : St } (lineV 1 s.line) 73 (q := n.toNat) (by omega) true), st (st_ops { s with x := (-1), sh := (upd (upd s.sh s.su.toNat true) n.toNat true), ops := (upd s.ops s.su.toNat (op)) : St } (lineV 1 s.line) 73 (q := n.toNat) (by omega) (op)), trivial⟩ ⟨oe hN, trivial⟩ 2 (lockL []) (lockP ++ [sv 40, sv 41]) [(0, 0), (2, 3)]
                · by_cases h6 : s.sh s.su.toNat = true
                  · simp only [gotS, if_pos h3, if_neg h4, if_neg h5, if_pos h6] at hN
                    exact pth (dg s ([iv n, iv op, .bool (s.sh s.su.toNat)] ++ b8 (upd s.sh s.su.toNat true) ++ n8 (upd s.ops s.su.toNat (op)) ++ b8 (upd (upd s.sh s.su.toNat true) n.toNat true) ++ n8 (upd (upd s.ops s.su.toNat (op)) n.toNat (op)) ++ tv t) [(lineV 1 s.line), pt 0 (2 + s.su.toNat), pt 0 (18 + s.su.toNat), pt 0 (2 + n.toNat), pt 0 (18 + n.toNat), lineV 2 t.line] [encL s.line, encL t.line]) ⟨[kt .neq 31 (ch 0) (.slice none 0 0), kf .neq 71 (sv 29) (iv 2), kf .neq 2 (sv 41) (sv 39), kf .neq 3 (sv 40) (sv 27), kt .eql 32 (sv 28) (iv 1), kt .neq 3 (sv 38) (iv (-1)), kf .eql 3 (sv 0) (sv 38), kx 70 0 2 38 1, tt 42, kx 30 0 18 38 2, kx 70 0 2 40 3, kx 30 0 18 40 4], [], [([4, 1000000], (eLd 1 2 [] 42)), ([4, 1000001], (eSt 1 (.bool true) 2 [] (p8 2 43))), ([2, 1000001], (eSt 2 (sv 41) 2 (p8 2 43) (p8 2 43 ++ p8 18 51))), ([4, 1000001], (eSt 3 (.bool true) 2 ([(0, iv (-1))] ++ p8 2 43 ++ p8 18 51) ([(0, iv (-1))] ++ p8 2 59 ++ p8 18 51))), ([2, 1000001], (eSt 4 (sv 41) 2 ([(0, iv (-1))] ++ p8 2 59 ++ p8 18 51) ([(0, iv (-1))] ++ p8 2 59 ++ p8 18 67)))]⟩ [(73, [(eC0 [pt 0 0] 2 ([(0, iv (-1))] ++ p8 2 59 ++ p8 18 67) 75 5 1 0 1)])] ⟨asNeS u31 rfl, nF s.wt 2, nF op s.op, nF n s.hn, eT s.hk 1, nT s.su (-1), eF s.x s.su, iA u70 z4 rfl rfl, tB h6, iA u30 z2 rfl rfl, iA u70 z4 rfl rfl, iA u30 z2 rfl rfl, trivial⟩ trivial ⟨ld (ld_sh s (lineV 1 s.line) 73 (q := s.su.toNat) (by omega)), st (st_sh s (lineV 1 s.line) 73 (q := s.su.toNat) (by omega) true), st (st_ops { s with sh := (upd s.sh s.su.toNat true) : St } (lineV 1 s.line) 73 (q := s.su.toNat) (by omega) (op)), st (st_sh { s with x := (-1), sh := (upd s.sh s.su.toNat true), ops := (upd s.ops s.su.toNat (op)) : St } (lineV 1 s.line) 73 (q := n.toNat) (by omega) true), st (st_ops { s with x := (-1), sh := (upd (upd s.sh s.su.toNat true) n.toNat true), ops := (upd s.ops s.su.toNat (op)) : St } (lineV 1 s.line) 73 (q := n.toNat) (by omega) (op)), trivial⟩ ⟨oe hN, trivial⟩ 2 (lockL []) (lockP ++ [sv 40, sv 41]) [(0, 0), (2, 3)]
                  · simp only [gotS, if_pos h3, if_neg h4, if_neg h5, if_neg h6] at hN
                    exact pth (dg s ([iv n, iv op, .bool (s.sh s.su.toNat)] ++ b8 (upd s.sh n.toNat true) ++ n8 (upd s.ops n.toNat (op)) ++ tv t) [(lineV 1 s.line), pt 0 (2 + s.su.toNat), pt 0 (2 + n.toNat), pt 0 (18 + n.toNat), lineV 2 t.line] [encL s.line, encL t.line]) ⟨[kt .neq 31 (ch 0) (.slice none 0 0), kf .neq 71 (sv 29) (iv 2), kf .neq 2 (sv 41) (sv 39), kf .neq 3 (sv 40) (sv 27), kt .eql 32 (sv 28) (iv 1), kt .neq 3 (sv 38) (iv (-1)), kf .eql 3 (sv 0) (sv 38), kx 70 0 2 38 1, tf 42, kx 70 0 2 40 2, kx 30 0 18 40 3], [], [([4, 1000000], (eLd 1 2 [] 42)), ([4, 1000001], (eSt 2 (.bool true) 2 [] (p8 2 43))), ([2, 1000001], (eSt 3 (sv 41) 2 (p8 2 43) (p8 2 43 ++ p8 18 51)))]⟩ [(73, [(eC0 [pt 0 0] 2 (p8 2 43 ++ p8 18 51) 59 4 1 0 1)])] ⟨asNeS u31 rfl, nF s.wt 2, nF op s.op, nF n s.hn, eT s.hk 1, nT s.su (-1), eF s.x s.su, iA u70 z4 rfl rfl, tB (Bool.eq_false_iff.2 h6), iA u70 z4 rfl rfl, iA u30 z2 rfl rfl, trivial⟩ trivial ⟨ld (ld_sh s (lineV 1 s.line) 73 (q := s.su.toNat) (by omega)), st (st_sh s (lineV 1 s.line) 73 (q := n.toNat) (by omega) true), st (st_ops { s with sh := (upd s.sh n.toNat true) : St } (lineV 1 s.line) 73 (q := n.toNat) (by omega) (op)), trivial⟩ ⟨oe hN, trivial⟩ 2 (lockL []) (lockP ++ [sv 40, sv 41]) [(0, 0), (2, 3)]
            · by_cases h7 : ((s.su) : Int) = (-1)
              · simp only [gotS, if_neg h3, if_pos h7] at hN
                exact pth (dg s ([iv n, iv op] ++ n8 (upd (fun _ => 0) n.toNat (op)) ++ tv t) [(lineV 1 s.line), pt 0 (18 + n.toNat), lineV 2 t.line] [encL s.line, encL t.line]) ⟨[kt .neq 31 (ch 0) (.slice none 0 0), kf .neq 71 (sv 29) (iv 2), kf .neq 2 (sv 41) (sv 39), kf .neq 3 (sv 40) (sv 27), kf .eql 32 (sv 28) (iv 1), kf .neq 3 (sv 38) (iv (-1)), kx 30 0 18 40 1], [], [([2, 1000001], (eSt 1 (sv 41) 2 [(0, sv 40), (1, sv 40), (2, .bool false), (3, .bool false), (4, .bool false), (5, .bool false), (6, .bool false), (7, .bool false), (8, .bool false), (9, .bool false), (18, iv 0), (19, iv 0), (20, iv 0), (21, iv 0), (22, iv 0), (23, iv 0), (24, iv 0), (25, iv 0)] ([(0, sv 40), (1, sv 40), (2, .bool false), (3, .bool false), (4, .bool false), (5, .bool false), (6, .bool false), (7, .bool false), (8, .bool false), (9, .bool false)] ++ p8 18 42)))]⟩ [(73, [(eC0 [pt 0 0] 2 ([(0, sv 40), (1, sv 40), (2, .bool false), (3, .bool false), (4, .bool false), (5, .bool false), (6, .bool false), (7, .bool false), (8, .bool false), (9, .bool false)] ++ p8 18 42) 50 2 1 0 1)])] ⟨asNeS u31 rfl, nF s.wt 2, nF op s.op, nF n s.hn, eF s.hk 1, nF s.su (-1), iA u30 z2 rfl rfl, trivial⟩ trivial ⟨st (st_ops { s with x := (n), owner := (n), sh := (fun _ => false), ops := (fun _ => 0) : St } (lineV 1 s.line) 73 (q := n.toNat) (by omega) (op)), trivial⟩ ⟨oe hN, trivial⟩ 2 (lockL []) (lockP ++ [sv 40, sv 41]) [(0, 0), (2, 3)]
              · by_cases h8 : ((s.su) : Int) = (s.owner)
                · simp only [gotS, if_neg h3, if_neg h7, if_pos h8] at hN
                  exact pth (dg s ([iv n, iv op] ++ b8 (upd s.pa s.su.toNat true) ++ n8 (upd (fun _ => 0) n.toNat (op)) ++ tv t) [(lineV 1 s.line), pt 0 (10 + s.su.toNat), pt 0 (18 + n.toNat), lineV 2 t.line] [encL s.line, encL t.line]) ⟨[kt .neq 31 (ch 0) (.slice none 0 0), kf .neq 71 (sv 29) (iv 2), kf .neq 2 (sv 41) (sv 39), kf .neq 3 (sv 40) (sv 27), kf .eql 32 (sv 28) (iv 1), kt .neq 3 (sv 38) (iv (-1)), kt .eql 3 (sv 38) (sv 1), kx 70 0 10 38 1, kx 30 0 18 40 2], [], [([4, 1000001], (eSt 1 (.bool true) 2 [] (p8 10 42))), ([2, 1000001], (eSt 2 (sv 41) 2 ([(0, sv 40), (1, sv 40), (2, .bool false), (3, .bool false), (4, .bool false), (5, .bool false), (6, .bool false), (7, .bool false), (8, .bool false), (9, .bool false)] ++ p8 10 42 ++ [(18, iv 0), (19, iv 0), (20, iv 0), (21, iv 0), (22, iv 0), (23, iv 0), (24, iv 0), (25, iv 0)]) ([(0, sv 40), (1, sv 40), (2, .bool false), (3, .bool false), (4, .bool false), (5, .bool false), (6, .bool false), (7, .bool false), (8, .bool false), (9, .bool false)] ++ p8 10 42 ++ p8 18 50)))]⟩ [(73, [(eC0 [pt 0 0] 2 ([(0, sv 40), (1, sv 40), (2, .bool false), (3, .bool false), (4, .bool false), (5, .bool false), (6, .bool false), (7, .bool false), (8, .bool false), (9, .bool false)] ++ p8 10 42 ++ p8 18 50) 58 3 1 0 1)])] ⟨asNeS u31 rfl, nF s.wt 2, nF op s.op, nF n s.hn, eF s.hk 1, nT s.su (-1), eT s.su s.owner, iA u70 z4 rfl rfl, iA u30 z2 rfl rfl, trivial⟩ trivial ⟨st (st_pa s (lineV 1 s.line) 73 (q := s.su.toNat) (by omega) true), st (st_ops { s with x := (n), owner := (n), sh := (fun _ => false), pa := (upd s.pa s.su.toNat true), ops := (fun _ => 0) : St } (lineV 1 s.line) 73 (q := n.toNat) (by omega) (op)), trivial⟩ ⟨oe hN, trivial⟩ 2 (lockL []) (lockP ++ [sv 40, sv 41]) [(0, 0), (2, 3)]
                · simp only [gotS, if_neg h3, if_neg h7, if_neg h8] at hN
                  exact pth (dg s ([iv n, iv op] ++ n8 (upd (fun _ => 0) n.toNat (op)) ++ tv t) [(lineV 1 s.line), pt 0 (18 + n.toNat), lineV 2 t.line] [encL s.line, encL t.line]) ⟨[kt .neq 31 (ch 0) (.slice none 0 0), kf .neq 71 (sv 29) (iv 2), kf .neq 2 (sv 41) (sv 39), kf .neq 3 (sv 40) (sv 27), kf .eql 32 (sv 28) (iv 1), kt .neq 3 (sv 38) (iv (-1)), kf .eql 3 (sv 38) (sv 1), kx 30 0 18 40 1], [], [([2, 1000001], (eSt 1 (sv 41) 2 [(0, sv 40), (1, sv 40), (2, .bool false), (3, .bool false), (4, .bool false), (5, .bool false), (6, .bool false), (7, .bool false), (8, .bool false), (9, .bool false), (18, iv 0), (19, iv 0), (20, iv 0), (21, iv 0), (22, iv 0), (23, iv 0), (24, iv 0), (25, iv 0)] ([(0, sv 40), (1, sv 40), (2, .bool false), (3, .bool false), (4, .bool false), (5, .bool false), (6, .bool false), (7, .bool false), (8, .bool false), (9, .bool false)] ++ p8 18 42)))]⟩ [(73, [(eC0 [pt 0 0] 2 ([(0, sv 40), (1, sv 40), (2, .bool false), (3, .bool false), (4, .bool false), (5, .bool false), (6, .bool false), (7, .bool false), (8, .bool false), (9, .bool false)] ++ p8 18 42) 50 2 1 0 1)])] ⟨asNeS u31 rfl, nF s.wt 2, nF op s.op, nF n s.hn, eF s.hk 1, nT s.su (-1), eF s.su s.owner, iA u30 z2 rfl rfl, trivial⟩ trivial ⟨st (st_ops { s with x := (n), owner := (n), sh := (fun _ => false), ops := (fun _ => 0) : St } (lineV 1 s.line) 73 (q := n.toNat) (by omega) (op)), trivial⟩ ⟨oe hN, trivial⟩ 2 (lockL []) (lockP ++ [sv 40, sv 41]) [(0, 0), (2, 3)]
          · exact ab ho
        · exact ab ho
      · exact ab ho
  | cons x l =>
    · by_cases h0 : ((s.wt) : Int) = (2)
      · by_cases h1 : ((op) : Int) = (s.op)
        · by_cases h2 : ((n) : Int) = (s.hn)
          · by_cases h3 : ((s.hk) : Int) = (1)
            · by_cases h4 : ((s.su) : Int) = (-1)
              · simp only [gotS, if_pos h3, if_pos h4] at hN
                exact pth (dg s ([iv n, iv op] ++ b8 (upd s.sh n.toNat true) ++ n8 (upd s.ops n.toNat (op)) ++ tv t) [(lineV 1 s.line), pt 0 (2 + n.toNat), pt 0 (18 + n.toNat), lineV 2 t.line, .slice (some ⟨3, 0, none⟩) (x :: l).length cap] [encL s.line, encL t.line, encOrds (x :: l)]) ⟨[kt .neq 31 (ch 0) (.slice none 0 0), kf .neq 71 (sv 29) (iv 2), kf .neq 2 (sv 41) (sv 39), kf .neq 3 (sv 40) (sv 27), kt .eql 32 (sv 28) (iv 1), kf .neq 3 (sv 38) (iv (-1)), kx 70 0 2 40 1, kx 30 0 18 40 2], [], [([4, 1000001], (eSt 1 (.bool true) 2 [] (p8 2 42))), ([2, 1000001], (eSt 2 (sv 41) 2 (p8 2 42) (p8 2 42 ++ p8 18 50)))]⟩ [(73, [(eC1 [pt 0 0] 2 (p8 2 42 ++ p8 18 50) 58 3 1 0 1 2 (ch 4))])] ⟨asNeS u31 rfl, nF s.wt 2, nF op s.op, nF n s.hn, eT s.hk 1, nF s.su (-1), iA u70 z4 rfl rfl, iA u30 z2 rfl rfl, trivial⟩ trivial ⟨st (st_sh s (lineV 1 s.line) 73 (q := n.toNat) (by omega) true), st (st_ops { s with sh := (upd s.sh n.toNat true) : St } (lineV 1 s.line) 73 (q := n.toNat) (by omega) (op)), trivial⟩ ⟨oe hN, trivial⟩ 2 (lockL []) (lockP ++ [sv 40, sv 41]) [(0, 0), (2, 3), (3, 2)]
              · by_cases h5 : ((s.x) : Int) = (s.su)
                · simp only [gotS, if_pos h3, if_neg h4, if_pos h5] at hN
                  exact pth (dg s ([iv n, iv op] ++ b8 (upd s.sh s.su.toNat true) ++ n8 (upd s.ops s.su.toNat (op)) ++ b8 (upd (upd s.sh s.su.toNat true) n.toNat true) ++ n8 (upd (upd s.ops s.su.toNat (op)) n.toNat (op)) ++ tv t) [(lineV 1 s.line), pt 0 (2 + s.su.toNat), pt 0 (18 + s.su.toNat), pt 0 (2 + n.toNat), pt 0 (18 + n.toNat), lineV 2 t.line, .slice (some ⟨3, 0, none⟩) (x :: l).length cap] [encL s.line, encL t.line, encOrds (x :: l)]) ⟨[kt .neq 31 (ch 0) (.slice none 0 0), kf .neq 71 (sv 29) (iv 2), kf .neq 2 (sv 41) (sv 39), kf .neq 3 (sv 40) (sv 27), kt .eql 32 (sv 28) (iv 1), kt .neq 3 (sv 38) (iv (-1)), kt .eql 3 (sv 0) (sv 38), kx 70 0 2 38 1, kx 30 0 18 38 2, kx 70 0 2 40 3, kx 30 0 18 40 4], [], [([4, 1000001], (eSt 1 (.bool true) 2 [] (p8 2 42))), ([2, 1000001], (eSt 2 (sv 41) 2 (p8 2 42) (p8 2 42 ++ p8 18 50))), ([4, 1000001], (eSt 3 (.bool true) 2 ([(0, iv (-1))] ++ p8 2 42 ++ p8 18 50) ([(0, iv (-1))] ++ p8 2 58 ++ p8 18 50))), ([2, 1000001], (eSt 4 (sv 41) 2 ([(0, iv (-1))] ++ p8 2 58 ++ p8 18 50) ([(0, iv (-1))] ++ p8 2 58 ++ p8 18 66)))]⟩ [(73, [(eC1 [pt 0 0] 2 ([(0, iv (-1))] ++ p8 2 58 ++ p8 18 66) 74 5 1 0 1 2 (ch 6))])] ⟨asNeS u31 rfl, nF s.wt 2, nF op s.op, nF n s.hn, eT s.hk 1, nT s.su (-1), eT s.x s.su, iA u70 z4 rfl rfl, iA u30 z2 rfl rfl, iA u70 z4 rfl rfl, iA u30 z2 rfl rfl, trivial⟩ trivial ⟨st (st_sh s (lineV 1 s.line) 73 (q := s.su.toNat) (by omega) true), st (st_ops { s with sh := (upd s.sh s.su.toNat true) : St } (lineV 1 s.line) 73 (q := s.su.toNat) (by omega) (op)), st (st_sh { s with x := (-1), sh := (upd s.sh s.su.toNat true), ops := (upd s.ops s.su.toNat (op)) : St } (lineV 1 s.line) 73 (q := n.toNat) (by omega) true), st (st_ops { s with x := (-1), sh := (upd (upd s.sh s.su.toNat true) n.toNat true), ops := (upd s.ops s.su.toNat (op)) : St } (lineV 1 s.line) 73 (q := n.toNat) (by omega) (op)), trivial⟩ ⟨oe hN, trivial⟩ 2 (lockL []) (lockP ++ [sv 40, sv 41]) [(0, 0), (2, 3), (3, 2)]
                · by_cases h6 : s.sh s.su.toNat = true
                  · simp only [gotS, if_pos h3, if_neg h4, if_neg h5, if_pos h6] at hN
                    exact pth (dg s ([iv n, iv op, .bool (s.sh s.su.toNat)] ++ b8 (upd s.sh s.su.toNat true) ++ n8 (upd s.ops s.su.toNat (op)) ++ b8 (upd (upd s.sh s.su.toNat true) n.toNat true) ++ n8 (upd (upd s.ops s.su.toNat (op)) n.toNat (op)) ++ tv t) [(lineV 1 s.line), pt 0 (2 + s.su.toNat), pt 0 (18 + s.su.toNat), pt 0 (2 + n.toNat), pt 0 (18 + n.toNat), lineV 2 t.line, .slice (some ⟨3, 0, none⟩) (x :: l).length cap] [encL s.line, encL t.line, encOrds (x :: l)]) ⟨[kt .neq 31 (ch 0) (.slice none 0 0), kf .neq 71 (sv 29) (iv 2), kf .neq 2 (sv 41) (sv 39), kf .neq 3 (sv 40) (sv 27), kt .eql 32 (sv 28) (iv 1), kt .neq 3 (sv 38) (iv (-1)), kf .eql 3 (sv 0) (sv 38), kx 70 0 2 38 1, tt 42, kx 30 0 18 38 2, kx 70 0 2 40 3, kx 30 0 18 40 4], [], [([4, 1000000], (eLd 1 2 [] 42)), ([4, 1000001], (eSt 1 (.bool true) 2 [] (p8 2 43))), ([2, 1000001], (eSt 2 (sv 41) 2 (p8 2 43) (p8 2 43 ++ p8 18 51))), ([4, 1000001], (eSt 3 (.bool true) 2 ([(0, iv (-1))] ++ p8 2 43 ++ p8 18 51) ([(0, iv (-1))] ++ p8 2 59 ++ p8 18 51))), ([2, 1000001], (eSt 4 (sv 41) 2 ([(0, iv (-1))] ++ p8 2 59 ++ p8 18 51) ([(0, iv (-1))] ++ p8 2 59 ++ p8 18 67)))]⟩ [(73, [(eC1 [pt 0 0] 2 ([(0, iv (-1))] ++ p8 2 59 ++ p8 18 67) 75 5 1 0 1 2 (ch 6))])] ⟨asNeS u31 rfl, nF s.wt 2, nF op s.op, nF n s.hn, eT s.hk 1, nT s.su (-1), eF s.x s.su, iA u70 z4 rfl rfl, tB h6, iA u30 z2 rfl rfl, iA u70 z4 rfl rfl, iA u30 z2 rfl rfl, trivial⟩ trivial ⟨ld (ld_sh s (lineV 1 s.line) 73 (q := s.su.toNat) (by omega)), st (st_sh s (lineV 1 s.line) 73 (q := s.su.toNat) (by omega) true), st (st_ops { s with sh := (upd s.sh s.su.toNat true) : St } (lineV 1 s.line) 73 (q := s.su.toNat) (by omega) (op)), st (st_sh { s with x := (-1), sh := (upd s.sh s.su.toNat true), ops := (upd s.ops s.su.toNat (op)) : St } (lineV 1 s.line) 73 (q := n.toNat) (by omega) true), st (st_ops { s with x := (-1), sh := (upd (upd s.sh s.su.toNat true) n.toNat true), ops := (upd s.ops s.su.toNat (op)) : St } (lineV 1 s.line) 73 (q := n.toNat) (by omega) (op)), trivial⟩ ⟨oe hN, trivial⟩ 2 (lockL []) (lockP ++ [sv 40, sv 41]) [(0, 0), (2, 3), (3, 2)]
                  · simp only [gotS, if_pos h3, if_neg h4, if_neg h5, if_neg h6] at hN
                    exact pth (dg s ([iv n, iv op, .bool (s.sh s.su.toNat)] ++ b8 (upd s.sh n.toNat true) ++ n8 (upd s.ops n.toNat (op)) ++ tv t) [(lineV 1 s.line), pt 0 (2 + s.su.toNat), pt 0 (2 + n.toNat), pt 0 (18 + n.toNat), lineV 2 t.line, .slice (some ⟨3, 0, none⟩) (x :: l).length cap] [encL s.line, encL t.line, encOrds (x :: l)]) ⟨[kt .neq 31 (ch 0) (.slice none 0 0), kf .neq 71 (sv 29) (iv 2), kf .neq 2 (sv 41) (sv 39), kf .neq 3 (sv 40) (sv 27), kt .eql 32 (sv 28) (iv 1), kt .neq 3 (sv 38) (iv (-1)), kf .eql 3 (sv 0) (sv 38), kx 70 0 2 38 1, tf 42, kx 70 0 2 40 2, kx 30 0 18 40 3], [], [([4, 1000000], (eLd 1 2 [] 42)), ([4, 1000001], (eSt 2 (.bool true) 2 [] (p8 2 43))), ([2, 1000001], (eSt 3 (sv 41) 2 (p8 2 43) (p8 2 43 ++ p8 18 51)))]⟩ [(73, [(eC1 [pt 0 0] 2 (p8 2 43 ++ p8 18 51) 59 4 1 0 1 2 (ch 5))])] ⟨asNeS u31 rfl, nF s.wt 2, nF op s.op, nF n s.hn, eT s.hk 1, nT s.su (-1), eF s.x s.su, iA u70 z4 rfl rfl, tB (Bool.eq_false_iff.2 h6), iA u70 z4 rfl rfl, iA u30 z2 rfl rfl, trivial⟩ trivial ⟨ld (ld_sh s (lineV 1 s.line) 73 (q := s.su.toNat) (by omega)), st (st_sh s (lineV 1 s.line) 73 (q := n.toNat) (by omega) true), st (st_ops { s with sh := (upd s.sh n.toNat true) : St } (lineV 1 s.line) 73 (q := n.toNat) (by omega) (op)), trivial⟩ ⟨oe hN, trivial⟩ 2 (lockL []) (lockP ++ [sv 40, sv 41]) [(0, 0), (2, 3), (3, 2)]
            · by_cases h7 : ((s.su) : Int) = (-1)
              · simp only [gotS, if_neg h3, if_pos h7] at hN
                exact pth (dg s ([iv n, iv op] ++ n8 (upd (fun _ => 0) n.toNat (op)) ++ tv t) [(lineV 1 s.line), pt 0 (18 + n.toNat), lineV 2 t.line, .slice (some ⟨3, 0, none⟩) (x :: l).length cap] [encL s.line, encL t.line, encOrds (x :: l)]) ⟨[kt .neq 31 (ch 0) (.slice none 0 0), kf .neq 71 (sv 29) (iv 2), kf .neq 2 (sv 41) (sv 39), kf .neq 3 (sv 40) (sv 27), kf .eql 32 (sv 28) (iv 1), kf .neq 3 (sv 38) (iv (-1)), kx 30 0 18 40 1], [], [([2, 1000001], (eSt 1 (sv 41) 2 [(0, sv 40), (1, sv 40), (2, .bool false), (3, .bool false), (4, .bool false), (5, .bool false), (6, .bool false), (7, .bool false), (8, .bool false), (9, .bool false), (18, iv 0), (19, iv 0), (20, iv 0), (21, iv 0), (22, iv 0), (23, iv 0), (24, iv 0), (25, iv 0)] ([(0, sv 40), (1, sv 40), (2, .bool false), (3, .bool false), (4, .bool false), (5, .bool false), (6, .bool false), (7, .bool false), (8, .bool false), (9, .bool false)] ++ p8 18 42)))]⟩ [(73, [(eC1 [pt 0 0] 2 ([(0, sv 40), (1, sv 40), (2, .bool false), (3, .bool false), (4, .bool false), (5, .bool false), (6, .bool false), (7, .bool false), (8, .bool false), (9, .bool false)] ++ p8 18 42) 50 2 1 0 1 2 (ch 3))])] ⟨asNeS u31 rfl, nF s.wt 2, nF op s.op, nF n s.hn, eF s.hk 1, nF s.su (-1), iA u30 z2 rfl rfl, trivial⟩ trivial ⟨st (st_ops { s with x := (n), owner := (n), sh := (fun _ => false), ops := (fun _ => 0) : St } (lineV 1 s.line) 73 (q := n.toNat) (by omega) (op)), trivial⟩ ⟨oe hN, trivial⟩ 2 (lockL []) (lockP ++ [sv 40, sv 41]) [(0, 0), (2, 3), (3, 2)]
              · by_cases h8 : ((s.su) : Int) = (s.owner)
                · simp only [gotS, if_neg h3, if_neg h7, if_pos h8] at hN
                  exact pth (dg s ([iv n, iv op] ++ b8 (upd s.pa s.su.toNat true) ++ n8 (upd (fun _ => 0) n.toNat (op)) ++ tv t) [(lineV 1 s.line), pt 0 (10 + s.su.toNat), pt 0 (18 + n.toNat), lineV 2 t.line, .slice (some ⟨3, 0, none⟩) (x :: l).length cap] [encL s.line, encL t.line, encOrds (x :: l)]) ⟨[kt .neq 31 (ch 0) (.slice none 0 0), kf .neq 71 (sv 29) (iv 2), kf .neq 2 (sv 41) (sv 39), kf .neq 3 (sv 40) (sv 27), kf .eql 32 (sv 28) (iv 1), kt .neq 3 (sv 38) (iv (-1)), kt .eql 3 (sv 38) (sv 1), kx 70 0 10 38 1, kx 30 0 18 40 2], [], [([4, 1000001], (eSt 1 (.bool true) 2 [] (p8 10 42))), ([2, 1000001], (eSt 2 (sv 41) 2 ([(0, sv 40), (1, sv 40), (2, .bool false), (3, .bool false), (4, .bool false), (5, .bool false), (6, .bool false), (7, .bool false), (8, .bool false), (9, .bool false)] ++ p8 10 42 ++ [(18, iv 0), (19, iv 0), (20, iv 0), (21, iv 0), (22, iv 0), (23, iv 0), (24, iv 0), (25, iv 0)]) ([(0, sv 40), (1, sv 40), (2, .bool false), (3, .bool false), (4, .bool false), (5, .bool false), (6, .bool false), (7, .bool false), (8, .bool false), (9, .bool false)] ++ p8 10 42 ++ p8 18 50)))]⟩ [(73, [(eC1 [pt 0 0] 2 ([(0, sv 40), (1, sv 40), (2, .bool false), (3, .bool false), (4, .bool false), (5, .bool false), (6, .bool false), (7, .bool false), (8, .bool false), (9, .bool false)] ++ p8 10 42 ++ p8 18 50) 58 3 1 0 1 2 (ch 4))])] ⟨asNeS u31 rfl, nF s.wt 2, nF op s.op, nF n s.hn, eF s.hk 1, nT s.su (-1), eT s.su s.owner, iA u70 z4 rfl rfl, iA u30 z2 rfl rfl, trivial⟩ trivial ⟨st (st_pa s (lineV 1 s.line) 73 (q := s.su.toNat) (by omega) true), st (st_ops { s with x := (n), owner := (n), sh := (fun _ => false), pa := (upd s.pa s.su.toNat true), ops := (fun _ => 0) : St } (lineV 1 s.line) 73 (q := n.toNat) (by omega) (op)), trivial⟩ ⟨oe hN, trivial⟩ 2 (lockL []) (lockP ++ [sv 40, sv 41]) [(0, 0), (2, 3), (3, 2)]
                · simp only [gotS, if_neg h3, if_neg h7, if_neg h8] at hN
                  exact pth (dg s ([iv n, iv op] ++ n8 (upd (fun _ => 0) n.toNat (op)) ++ tv t) [(lineV 1 s.line), pt 0 (18 + n.toNat), lineV 2 t.line, .slice (some ⟨3, 0, none⟩) (x :: l).length cap] [encL s.line, encL t.line, encOrds (x :: l)]) ⟨[kt .neq 31 (ch 0) (.slice none 0 0), kf .neq 71 (sv 29) (iv 2), kf .neq 2 (sv 41) (sv 39), kf .neq 3 (sv 40) (sv 27), kf .eql 32 (sv 28) (iv 1), kt .neq 3 (sv 38) (iv (-1)), kf .eql 3 (sv 38) (sv 1), kx 30 0 18 40 1], [], [([2, 1000001], (eSt 1 (sv 41) 2 [(0, sv 40), (1, sv 40), (2, .bool false), (3, .bool false), (4, .bool false), (5, .bool false), (6, .bool false), (7, .bool false), (8, .bool false), (9, .bool false), (18, iv 0), (19, iv 0), (20, iv 0), (21, iv 0), (22, iv 0), (23, iv 0), (24, iv 0), (25, iv 0)] ([(0, sv 40), (1, sv 40), (2, .bool false), (3, .bool false), (4, .bool false), (5, .bool false), (6, .bool false), (7, .bool false), (8, .bool false), (9, .bool false)] ++ p8 18 42)))]⟩ [(73, [(eC1 [pt 0 0] 2 ([(0, sv 40), (1, sv 40), (2, .bool false), (3, .bool false), (4, .bool false), (5, .bool false), (6, .bool false), (7, .bool false), (8, .bool false), (9, .bool false)] ++ p8 18 42) 50 2 1 0 1 2 (ch 3))])] ⟨asNeS u31 rfl, nF s.wt 2, nF op s.op, nF n s.hn, eF s.hk 1, nT s.su (-1), eF s.su s.owner, iA u30 z2 rfl rfl, trivial⟩ trivial ⟨st (st_ops { s with x := (n), owner := (n), sh := (fun _ => false), ops := (fun _ => 0) : St } (lineV 1 s.line) 73 (q := n.toNat) (by omega) (op)), trivial⟩ ⟨oe hN, trivial⟩ 2 (lockL []) (lockP ++ [sv 40, sv 41]) [(0, 0), (2, 3), (3, 2)]
          · exact ab ho
        · exact ab ho
      · exact ab ho
def relS (s : St) (n : Int) : St := { s with sh := upd s.sh n.toNat false, ops := upd s.ops n.toNat 0, x := if s.x = n then -1 else s.x, owner := if s.owner = n then -1 else s.owner }
theorem rel_out {s : St} {n op : Int} (ho : ¬ (0 ≤ n ∧ n < 8)) : MC 26 [.int .i64 n, .int .i64 op] s s [] := by
  refine MC.mk (cap := 0) ?_
  · by_cases h0 : ((n) : Int) ≥ (0)
    · by_cases h1 : ((n) : Int) < (8)
      · by_cases h2 : ((s.x) : Int) = (n)
        · by_cases h3 : ((s.owner) : Int) = (n)
          · by_cases h4 : ((s.wt) : Int) = (1)
            · by_cases h5 : s.go n.toNat = true
              · exact ab ho
              · exact ab ho
            · by_cases h6 : ((s.wt) : Int) = (2)
              · by_cases h7 : ((s.su) : Int) = (n)
                · by_cases h8 : ((op) : Int) < (s.op)
                  · by_cases h9 : ((s.hk) : Int) = (1)
                    · exact ab ho
                    · exact ab ho
                  · exact ab ho
                · exact ab ho
              · by_cases h10 : ((s.wt) : Int) = (3)
                · exact ab ho
                · exact ab ho
          · by_cases h11 : ((s.wt) : Int) = (1)
            · by_cases h12 : s.go n.toNat = true
              · exact ab ho
              · exact ab ho
            · by_cases h13 : ((s.wt) : Int) = (2)
              · by_cases h14 : ((s.su) : Int) = (n)
                · by_cases h15 : ((op) : Int) < (s.op)
                  · by_cases h16 : ((s.hk) : Int) = (1)
                    · exact ab ho
                    · exact ab ho
                  · exact ab ho
                · exact ab ho
              · by_cases h17 : ((s.wt) : Int) = (3)
                · exact ab ho
                · exact ab ho
        · by_cases h18 : ((s.owner) : Int) = (n)
          · by_cases h19 : ((s.wt) : Int) = (1)
            · by_cases h20 : s.go n.toNat = true
              · exact ab ho
              · exact ab ho
            · by_cases h21 : ((s.wt) : Int) = (2)
              · by_cases h22 : ((s.su) : Int) = (n)
                · by_cases h23 : ((op) : Int) < (s.op)
                  · by_cases h24 : ((s.hk) : Int) = (1)
                    · exact ab ho
                    · exact ab ho
                  · exact ab ho
                · exact ab ho
              · by_cases h25 : ((s.wt) : Int) = (3)
                · exact ab ho
                · exact ab ho
          · by_cases h26 : ((s.wt) : Int) = (1)
            · by_cases h27 : s.go n.toNat = true
              · exact ab ho
              · exact ab ho
            · by_cases h28 : ((s.wt) : Int) = (2)
              · by_cases h29 : ((s.su) : Int) = (n)
                · by_cases h30 : ((op) : Int) < (s.op)
                  · by_cases h31 : ((s.hk) : Int) = (1)
                    · exact ab ho
                    · exact ab ho
                  · exact ab ho
                · exact ab ho
              · by_cases h32 : ((s.wt) : Int) = (3)
                · exact ab ho
                · exact ab ho
      · skip
        exact pth (dg s [iv n, iv op] [(lineV 1 s.line)] [encL s.line]) ⟨[kt .neq 31 (ch 0) (.slice none 0 0), kt .geq 3 (sv 40) (iv 0), kf .lss 3 (sv 40) (iv 8)], [], []⟩ [] ⟨asNeS u31 rfl, qT (n ≥ 0), qF (n < 8), trivial⟩ trivial trivial trivial 2 (lockL []) (lockP ++ [sv 40, sv 41]) [(0, 0), (1, 3)]
    · skip
      exact pth (dg s [iv n, iv op] [(lineV 1 s.line)] [encL s.line]) ⟨[kt .neq 31 (ch 0) (.slice none 0 0), kf .geq 3 (sv 40) (iv 0)], [], []⟩ [] ⟨asNeS u31 rfl, qF (n ≥ 0), trivial⟩ trivial trivial trivial 2 (lockL []) (lockP ++ [sv 40, sv 41]) [(0, 0), (1, 3)]
theorem rel_nil {s : St} {n op : Int} (ho : (0 ≤ n ∧ n < 8) ∧ ¬ (s.wt = 1 ∧ s.go n.toNat = true) ∧ ¬ (s.wt = 2 ∧ s.su = n ∧ op < s.op) ∧ ¬ (s.wt = 3 ∧ s.owner = n)) : MC 26 [.int .i64 n, .int .i64 op] s (relS s n) [] := by
  refine MC.mk (cap := 0) ?_
  · by_cases h0 : ((n) : Int) ≥ (0)
    · by_cases h1 : ((n) : Int) < (8)
      · by_cases h2 : ((s.x) : Int) = (n)
        · by_cases h3 : ((s.owner) : Int) = (n)
          · by_cases h4 : ((s.wt) : Int) = (1)
            · by_cases h5 : s.go n.toNat = true
              · exact ab ho
              · simp only [relS, if_pos h2, if_pos h3]
                exact pth (dg s ([iv n, iv op] ++ b8 (upd s.sh n.toNat false) ++ n8 (upd s.ops n.toNat (0)) ++ [.bool (s.go n.toNat)]) [(lineV 1 s.line), pt 0 (2 + n.toNat), pt 0 (18 + n.toNat), pt 0 (30 + n.toNat)] [encL s.line]) ⟨[kt .neq 31 (ch 0) (.slice none 0 0), kt .geq 3 (sv 40) (iv 0), kt .lss 3 (sv 40) (iv 8), kx 70 0 2 40 1, kx 30 0 18 40 2, kt .eql 3 (sv 0) (sv 40), kt .eql 3 (sv 1) (sv 40), kt .eql 71 (sv 29) (iv 1), kx 70 0 30 40 3, tf 58, kf .eql 71 (sv 29) (iv 2), kf .eql 71 (sv 29) (iv 3)], [], [([4, 1000001], (eSt 1 (.bool false) 2 [] (p8 2 42))), ([2, 1000001], (eSt 2 (iv 0) 2 (p8 2 42) (p8 2 42 ++ p8 18 50))), ([4, 1000000], (eLd 3 2 ([(0, iv (-1)), (1, iv (-1))] ++ p8 2 42 ++ p8 18 50) 58))]⟩ [] ⟨asNeS u31 rfl, qT (n ≥ 0), qT (n < 8), iA u70 z4 rfl rfl, iA u30 z2 rfl rfl, eT s.x n, eT s.owner n, eT s.wt 1, iA u70 z4 rfl rfl, tB (Bool.eq_false_iff.2 h5), eF s.wt 2, eF s.wt 3, trivial⟩ trivial ⟨st (st_sh s (lineV 1 s.line) 73 (q := n.toNat) (by omega) false), st (st_ops { s with sh := (upd s.sh n.toNat false) : St } (lineV 1 s.line) 73 (q := n.toNat) (by omega) (0)), ld (ld_go { s with x := (-1), owner := (-1), sh := (upd s.sh n.toNat false), ops := (upd s.ops n.toNat (0)) : St } (lineV 1 s.line) 73 (q := n.toNat) (by omega)), trivial⟩ trivial 2 (lockL []) (lockP ++ [sv 40, sv 41]) [(0, 0), (1, 3)]
            · by_cases h6 : ((s.wt) : Int) = (2)
              · by_cases h7 : ((s.su) : Int) = (n)
                · by_cases h8 : ((op) : Int) < (s.op)
                  · by_cases h9 : ((s.hk) : Int) = (1)
                    · exact ab ho
                    · exact ab ho
                  · simp only [relS, if_pos h2, if_pos h3]
                    exact pth (dg s ([iv n, iv op] ++ b8 (upd s.sh n.toNat false) ++ n8 (upd s.ops n.toNat (0))) [(lineV 1 s.line), pt 0 (2 + n.toNat), pt 0 (18 + n.toNat)] [encL s.line]) ⟨[kt .neq 31 (ch 0) (.slice none 0 0), kt .geq 3 (sv 40) (iv 0), kt .lss 3 (sv 40) (iv 8), kx 70 0 2 40 1, kx 30 0 18 40 2, kt .eql 3 (sv 0) (sv 40), kt .eql 3 (sv 1) (sv 40), kf .eql 71 (sv 29) (iv 1), kt .eql 71 (sv 29) (iv 2), kt .eql 3 (sv 38) (sv 40), kf .lss 2 (sv 41) (sv 39), kf .eql 71 (sv 29) (iv 3)], [], [([4, 1000001], (eSt 1 (.bool false) 2 [] (p8 2 42))), ([2, 1000001], (eSt 2 (iv 0) 2 (p8 2 42) (p8 2 42 ++ p8 18 50)))]⟩ [] ⟨asNeS u31 rfl, qT (n ≥ 0), qT (n < 8), iA u70 z4 rfl rfl, iA u30 z2 rfl rfl, eT s.x n, eT s.owner n, eF s.wt 1, eT s.wt 2, eT s.su n, qF (op < s.op), eF s.wt 3, trivial⟩ trivial ⟨st (st_sh s (lineV 1 s.line) 73 (q := n.toNat) (by omega) false), st (st_ops { s with sh := (upd s.sh n.toNat false) : St } (lineV 1 s.line) 73 (q := n.toNat) (by omega) (0)), trivial⟩ trivial 2 (lockL []) (lockP ++ [sv 40, sv 41]) [(0, 0), (1, 3)]
                · simp only [relS, if_pos h2, if_pos h3]
                  exact pth (dg s ([iv n, iv op] ++ b8 (upd s.sh n.toNat false) ++ n8 (upd s.ops n.toNat (0))) [(lineV 1 s.line), pt 0 (2 + n.toNat), pt 0 (18 + n.toNat)] [encL s.line]) ⟨[kt .neq 31 (ch 0) (.slice none 0 0), kt .geq 3 (sv 40) (iv 0), kt .lss 3 (sv 40) (iv 8), kx 70 0 2 40 1, kx 30 0 18 40 2, kt .eql 3 (sv 0) (sv 40), kt .eql 3 (sv 1) (sv 40), kf .eql 71 (sv 29) (iv 1), kt .eql 71 (sv 29) (iv 2), kf .eql 3 (sv 38) (sv 40), kf .eql 71 (sv 29) (iv 3)], [], [([4, 1000001], (eSt 1 (.bool false) 2 [] (p8 2 42))), ([2, 1000001], (eSt 2 (iv 0) 2 (p8 2 42) (p8 2 42 ++ p8 18 50)))]⟩ [] ⟨asNeS u31 rfl, qT (n ≥ 0), qT (n < 8), iA u70 z4 rfl rfl, iA u30 z2 rfl rfl, eT s.x n, eT s.owner n, eF s.wt 1, eT s.wt 2, eF s.su n, eF s.wt 3, trivial⟩ trivial ⟨st (st_sh s (lineV 1 s.line) 73 (q := n.toNat) (by omega) false), st (st_ops { s with sh := (upd s.sh n.toNat false) : St } (lineV 1 s.line) 73 (q := n.toNat) (by omega) (0)), trivial⟩ trivial 2 (lockL []) (lockP ++ [sv 40, sv 41]) [(0, 0), (1, 3)]
              · by_cases h10 : ((s.wt) : Int) = (3)
                · exact ab ho
                · simp only [relS, if_pos h2, if_pos h3]
                  exact pth (dg s ([iv n, iv op] ++ b8 (upd s.sh n.toNat false) ++ n8 (upd s.ops n.toNat (0))) [(lineV 1 s.line), pt 0 (2 + n.toNat), pt 0 (18 + n.toNat)] [encL s.line]) ⟨[kt .neq 31 (ch 0) (.slice none 0 0), kt .geq 3 (sv 40) (iv 0), kt .lss 3 (sv 40) (iv 8), kx 70 0 2 40 1, kx 30 0 18 40 2, kt .eql 3 (sv 0) (sv 40), kt .eql 3 (sv 1) (sv 40), kf .eql 71 (sv 29) (iv 1), kf .eql 71 (sv 29) (iv 2), kf .eql 71 (sv 29) (iv 3)], [], [([4, 1000001], (eSt 1 (.bool false) 2 [] (p8 2 42))), ([2, 1000001], (eSt 2 (iv 0) 2 (p8 2 42) (p8 2 42 ++ p8 18 50)))]⟩ [] ⟨asNeS u31 rfl, qT (n ≥ 0), qT (n < 8), iA u70 z4 rfl rfl, iA u30 z2 rfl rfl, eT s.x n, eT s.owner n, eF s.wt 1, eF s.wt 2, eF s.wt 3, trivial⟩ trivial ⟨st (st_sh s (lineV 1 s.line) 73 (q := n.toNat) (by omega) false), st (st_ops { s with sh := (upd s.sh n.toNat false) : St } (lineV 1 s.line) 73 (q := n.toNat) (by omega) (0)), trivial⟩ trivial 2 (lockL []) (lockP ++ [sv 40, sv 41]) [(0, 0), (1, 3)]
          · by_cases h11 : ((s.wt) : Int) = (1)
            · by_cases h12 : s.go n.toNat = true
              · exact ab ho
              · simp only [relS, if_pos h2, if_neg h3]
                exact pth (dg s ([iv n, iv op] ++ b8 (upd s.sh n.toNat false) ++ n8 (upd s.ops n.toNat (0)) ++ [.bool (s.go n.toNat)]) [(lineV 1 s.line), pt 0 (2 + n.toNat), pt 0 (18 + n.toNat), pt 0 (30 + n.toNat)] [encL s.line]) ⟨[kt .neq 31 (ch 0) (.slice none 0 0), kt .geq 3 (sv 40) (iv 0), kt .lss 3 (sv 40) (iv 8), kx 70 0 2 40 1, kx 30 0 18 40 2, kt .eql 3 (sv 0) (sv 40), kf .eql 3 (sv 1) (sv 40), kt .eql 71 (sv 29) (iv 1), kx 70 0 30 40 3, tf 58, kf .eql 71 (sv 29) (iv 2), kf .eql 71 (sv 29) (iv 3)], [], [([4, 1000001], (eSt 1 (.bool false) 2 [] (p8 2 42))), ([2, 1000001], (eSt 2 (iv 0) 2 (p8 2 42) (p8 2 42 ++ p8 18 50))), ([4, 1000000], (eLd 3 2 ([(0, iv (-1))] ++ p8 2 42 ++ p8 18 50) 58))]⟩ [] ⟨asNeS u31 rfl, qT (n ≥ 0), qT (n < 8), iA u70 z4 rfl rfl, iA u30 z2 rfl rfl, eT s.x n, eF s.owner n, eT s.wt 1, iA u70 z4 rfl rfl, tB (Bool.eq_false_iff.2 h12), eF s.wt 2, eF s.wt 3, trivial⟩ trivial ⟨st (st_sh s (lineV 1 s.line) 73 (q := n.toNat) (by omega) false), st (st_ops { s with sh := (upd s.sh n.toNat false) : St } (lineV 1 s.line) 73 (q := n.toNat) (by omega) (0)), ld (ld_go { s with x := (-1), sh := (upd s.sh n.toNat false), ops := (upd s.ops n.toNat (0)) : St } (lineV 1 s.line) 73 (q := n.toNat) (by omega)), trivial⟩ trivial 2 (lockL []) (lockP ++ [sv 40, sv 41]) [(0, 0), (1, 3)]
            · by_cases h13 : ((s.wt) : Int) = (2)
              · by_cases h14 : ((s.su) : Int) = (n)
                · by_cases h15 : ((op) : Int) < (s.op)
                  · by_cases h16 : ((s.hk) : Int) = (1)
                    · exact ab ho
                    · exact ab ho
                  · simp only [relS, if_pos h2, if_neg h3]
                    exact pth (dg s ([iv n, iv op] ++ b8 (upd s.sh n.toNat false) ++ n8 (upd s.ops n.toNat (0))) [(lineV 1 s.line), pt 0 (2 + n.toNat), pt 0 (18 + n.toNat)] [encL s.line]) ⟨[kt .neq 31 (ch 0) (.slice none 0 0), kt .geq 3 (sv 40) (iv 0), kt .lss 3 (sv 40) (iv 8), kx 70 0 2 40 1, kx 30 0 18 40 2, kt .eql 3 (sv 0) (sv 40), kf .eql 3 (sv 1) (sv 40), kf .eql 71 (sv 29) (iv 1), kt .eql 71 (sv 29) (iv 2), kt .eql 3 (sv 38) (sv 40), kf .lss 2 (sv 41) (sv 39), kf .eql 71 (sv 29) (iv 3)], [], [([4, 1000001], (eSt 1 (.bool false) 2 [] (p8 2 42))), ([2, 1000001], (eSt 2 (iv 0) 2 (p8 2 42) (p8 2 42 ++ p8 18 50)))]⟩ [] ⟨asNeS u31 rfl, qT (n ≥ 0), qT (n < 8), iA u70 z4 rfl rfl, iA u30 z2 rfl rfl, eT s.x n, eF s.owner n, eF s.wt 1, eT s.wt 2, eT s.su n, qF (op < s.op), eF s.wt 3, trivial⟩ trivial ⟨st (st_sh s (lineV 1 s.line) 73 (q := n.toNat) (by omega) false), st (st_ops { s with sh := (upd s.sh n.toNat false) : St } (lineV 1 s.line) 73 (q := n.toNat) (by omega) (0)), trivial⟩ trivial 2 (lockL []) (lockP ++ [sv 40, sv 41]) [(0, 0), (1, 3)]
                · simp only [relS, if_pos h2, if_neg h3]
                  exact pth (dg s ([iv n, iv op] ++ b8 (upd s.sh n.toNat false) ++ n8 (upd s.ops n.toNat (0))) [(lineV 1 s.line), pt 0 (2 + n.toNat), pt 0 (18 + n.toNat)] [encL s.line]) ⟨[kt .neq 31 (ch 0) (.slice none 0 0), kt .geq 3 (sv 40) (iv 0), kt .lss 3 (sv 40) (iv 8), kx 70 0 2 40 1, kx 30 0 18 40 2, kt .eql 3 (sv 0) (sv 40), kf .eql 3 (sv 1) (sv 40), kf .eql 71 (sv 29) (iv 1), kt .eql 71 (sv 29) (iv 2), kf .eql 3 (sv 38) (sv 40), kf .eql 71 (sv 29) (iv 3)], [], [([4, 1000001], (eSt 1 (.bool false) 2 [] (p8 2 42))), ([2, 1000001], (eSt 2 (iv 0) 2 (p8 2 42) (p8 2 42 ++ p8 18 50)))]⟩ [] ⟨asNeS u31 rfl, qT (n ≥ 0), qT (n < 8), iA u70 z4 rfl rfl, iA u30 z2 rfl rfl, eT s.x n, eF s.owner n, eF s.wt 1, eT s.wt 2, eF s.su n, eF s.wt 3, trivial⟩ trivial ⟨st (st_sh s (lineV 1 s.line) 73 (q := n.toNat) (by omega) false), st (st_ops { s with sh := (upd s.sh n.toNat false) : St } (lineV 1 s.line) 73 (q := n.toNat) (by omega) (0)), trivial⟩ trivial 2 (lockL []) (lockP ++ [sv 40, sv 41]) [(0, 0), (1, 3)]
              · by_cases h17 : ((s.wt) : Int) = (3)
                · simp only [relS, if_pos h2, if_neg h3]
                  exact pth (dg s ([iv n, iv op] ++ b8 (upd s.sh n.toNat false) ++ n8 (upd s.ops n.toNat (0))) [(lineV 1 s.line), pt 0 (2 + n.toNat), pt 0 (18 + n.toNat)] [encL s.line]) ⟨[kt .neq 31 (ch 0) (.slice none 0 0), kt .geq 3 (sv 40) (iv 0), kt .lss 3 (sv 40) (iv 8), kx 70 0 2 40 1, kx 30 0 18 40 2, kt .eql 3 (sv 0) (sv 40), kf .eql 3 (sv 1) (sv 40), kf .eql 71 (sv 29) (iv 1), kf .eql 71 (sv 29) (iv 2), kt .eql 71 (sv 29) (iv 3)], [], [([4, 1000001], (eSt 1 (.bool false) 2 [] (p8 2 42))), ([2, 1000001], (eSt 2 (iv 0) 2 (p8 2 42) (p8 2 42 ++ p8 18 50)))]⟩ [] ⟨asNeS u31 rfl, qT (n ≥ 0), qT (n < 8), iA u70 z4 rfl rfl, iA u30 z2 rfl rfl, eT s.x n, eF s.owner n, eF s.wt 1, eF s.wt 2, eT s.wt 3, trivial⟩ trivial ⟨st (st_sh s (lineV 1 s.line) 73 (q := n.toNat) (by omega) false), st (st_ops { s with sh := (upd s.sh n.toNat false) : St } (lineV 1 s.line) 73 (q := n.toNat) (by omega) (0)), trivial⟩ trivial 2 (lockL []) (lockP ++ [sv 40, sv 41]) [(0, 0), (1, 3)]
                · simp only [relS, if_pos h2, if_neg h3]
                  exact pth (dg s ([iv n, iv op] ++ b8 (upd s.sh n.toNat false) ++ n8 (upd s.ops n.toNat (0))) [(lineV 1 s.line), pt 0 (2 + n.toNat), pt 0 (18 + n.toNat)] [encL s.line]) ⟨[kt .neq 31 (ch 0) (.slice none 0 0), kt .geq 3 (sv 40) (iv 0), kt .lss 3 (sv 40) (iv 8), kx 70 0 2 40 1, kx 30 0 18 40 2, kt .eql 3 (sv 0) (sv 40), kf .eql 3 (sv 1) (sv 40), kf .eql 71 (sv 29) (iv 1), kf .eql 71 (sv 29) (iv 2), kf .eql 71 (sv 29) (iv 3)], [], [([4, 1000001], (eSt 1 (.bool false) 2 [] (p8 2 42))), ([2, 1000001], (eSt 2 (iv 0) 2 (p8 2 42) (p8 2 42 ++ p8 18 50)))]⟩ [] ⟨asNeS u31 rfl, qT (n ≥ 0), qT (n < 8), iA u70 z4 rfl rfl, iA u30 z2 rfl rfl, eT s.x n, eF s.owner n, eF s.wt 1, eF s.wt 2, eF s.wt 3, trivial⟩ trivial ⟨st (st_sh s (lineV 1 s.line) 73 (q := n.toNat) (by omega) false), st (st_ops { s with sh := (upd s.sh n.toNat false) : St } (lineV 1 s.line) 73 (q := n.toNat) (by omega) (0)), trivial⟩ trivial 2 (lockL []) (lockP ++ [sv 40, sv 41]) [(0, 0), (1, 3)]
        · by_cases h18 : ((s.owner) : Int) = (n)
          · by_cases h19 : ((s.wt) : Int) = (1)
            · by_cases h20 : s.go n.toNat = true
              · exact ab ho
              · simp only [relS, if_neg h2, if_pos h18]
                exact pth (dg s ([iv n, iv op] ++ b8 (upd s.sh n.toNat false) ++ n8 (upd s.ops n.toNat (0)) ++ [.bool (s.go n.toNat)]) [(lineV 1 s.line), pt 0 (2 + n.toNat), pt 0 (18 + n.toNat), pt 0 (30 + n.toNat)] [encL s.line]) ⟨[kt .neq 31 (ch 0) (.slice none 0 0), kt .geq 3 (sv 40) (iv 0), kt .lss 3 (sv 40) (iv 8), kx 70 0 2 40 1, kx 30 0 18 40 2, kf .eql 3 (sv 0) (sv 40), kt .eql 3 (sv 1) (sv 40), kt .eql 71 (sv 29) (iv 1), kx 70 0 30 40 3, tf 58, kf .eql 71 (sv 29) (iv 2), kf .eql 71 (sv 29) (iv 3)], [], [([4, 1000001], (eSt 1 (.bool false) 2 [] (p8 2 42))), ([2, 1000001], (eSt 2 (iv 0) 2 (p8 2 42) (p8 2 42 ++ p8 18 50))), ([4, 1000000], (eLd 3 2 ([(1, iv (-1))] ++ p8 2 42 ++ p8 18 50) 58))]⟩ [] ⟨asNeS u31 rfl, qT (n ≥ 0), qT (n < 8), iA u70 z4 rfl rfl, iA u30 z2 rfl rfl, eF s.x n, eT s.owner n, eT s.wt 1, iA u70 z4 rfl rfl, tB (Bool.eq_false_iff.2 h20), eF s.wt 2, eF s.wt 3, trivial⟩ trivial ⟨st (st_sh s (lineV 1 s.line) 73 (q := n.toNat) (by omega) false), st (st_ops { s with sh := (upd s.sh n.toNat false) : St } (lineV 1 s.line) 73 (q := n.toNat) (by omega) (0)), ld (ld_go { s with owner := (-1), sh := (upd s.sh n.toNat false), ops := (upd s.ops n.toNat (0)) : St } (lineV 1 s.line) 73 (q := n.toNat) (by omega)), trivial⟩ trivial 2 (lockL []) (lockP ++ [sv 40, sv 41]) [(0, 0), (1, 3)]
            · by_cases h21 : ((s.wt) : Int) = (2)
              · by_cases h22 : ((s.su) : Int) = (n)
                · by_cases h23 : ((op) : Int) < (s.op)
                  · by_cases h24 : ((s.hk) : Int) = (1)
                    · exact ab ho
                    · exact ab ho
                  · simp only [relS, if_neg h2, if_pos h18]
                    exact pth (dg s ([iv n, iv op] ++ b8 (upd s.sh n.toNat false) ++ n8 (upd s.ops n.toNat (0))) [(lineV 1 s.line), pt 0 (2 + n.toNat), pt 0 (18 + n.toNat)] [encL s.line]) ⟨[kt .neq 31 (ch 0) (.slice none 0 0), kt .geq 3 (sv 40) (iv 0), kt .lss 3 (sv 40) (iv 8), kx 70 0 2 40 1, kx 30 0 18 40 2, kf .eql 3 (sv 0) (sv 40), kt .eql 3 (sv 1) (sv 40), kf .eql 71 (sv 29) (iv 1), kt .eql 71 (sv 29) (iv 2), kt .eql 3 (sv 38) (sv 40), kf .lss 2 (sv 41) (sv 39), kf .eql 71 (sv 29) (iv 3)], [], [([4, 1000001], (eSt 1 (.bool false) 2 [] (p8 2 42))), ([2, 1000001], (eSt 2 (iv 0) 2 (p8 2 42) (p8 2 42 ++ p8 18 50)))]⟩ [] ⟨asNeS u31 rfl, qT (n ≥ 0), qT (n < 8), iA u70 z4 rfl rfl, iA u30 z2 rfl rfl, eF s.x n, eT s.owner n, eF s.wt 1, eT s.wt 2, eT s.su n, qF (op < s.op), eF s.wt 3, trivial⟩ trivial ⟨st (st_sh s (lineV 1 s.line) 73 (q := n.toNat) (by omega) false), st (st_ops { s with sh := (upd s.sh n.toNat false) : St } (lineV 1 s.line) 73 (q := n.toNat) (by omega) (0)), trivial⟩ trivial 2 (lockL []) (lockP ++ [sv 40, sv 41]) [(0, 0), (1, 3)]
                · simp only [relS, if_neg h2, if_pos h18]
                  exact pth (dg s ([iv n, iv op] ++ b8 (upd s.sh n.toNat false) ++ n8 (upd s.ops n.toNat (0))) [(lineV 1 s.line), pt 0 (2 + n.toNat), pt 0 (18 + n.toNat)] [encL s.line]) ⟨[kt .neq 31 (ch 0) (.slice none 0 0), kt .geq 3 (sv 40) (iv 0), kt .lss 3 (sv 40) (iv 8), kx 70 0 2 40 1, kx 30 0 18 40 2, kf .eql 3 (sv 0) (sv 40), kt .eql 3 (sv 1) (sv 40), kf .eql 71 (sv 29) (iv 1), kt .eql 71 (sv 29) (iv 2), kf .eql 3 (sv 38) (sv 40), kf .eql 71 (sv 29) (iv 3)], [], [([4, 1000001], (eSt 1 (.bool false) 2 [] (p8 2 42))), ([2, 1000001], (eSt 2 (iv 0) 2 (p8 2 42) (p8 2 42 ++ p8 18 50)))]⟩ [] ⟨asNeS u31 rfl, qT (n ≥ 0), qT (n < 8), iA u70 z4 rfl rfl, iA u30 z2 rfl rfl, eF s.x n, eT s.owner n, eF s.wt 1, eT s.wt 2, eF s.su n, eF s.wt 3, trivial⟩ trivial ⟨st (st_sh s (lineV 1 s.line) 73 (q := n.toNat) (by omega) false), st (st_ops { s with sh := (upd s.sh n.toNat false) : St } (lineV 1 s.line) 73 (q := n.toNat) (by omega) (0)), trivial⟩ trivial 2 (lockL []) (lockP ++ [sv 40, sv 41]) [(0, 0), (1, 3)]
              · by_cases h25 : ((s.wt) : Int) = (3)
                · exact ab ho
                · simp only [relS, if_neg h2, if_pos h18]
                  exact pth (dg s ([iv n, iv op] ++ b8 (upd s.sh n.toNat false) ++ n8 (upd s.ops n.toNat (0))) [(lineV 1 s.line), pt 0 (2 + n.toNat), pt 0 (18 + n.toNat)] [encL s.line]) ⟨[kt .neq 31 (ch 0) (.slice none 0 0), kt .geq 3 (sv 40) (iv 0), kt .lss 3 (sv 40) (iv 8), kx 70 0 2 40 1, kx 30 0 18 40 2, kf .eql 3 (sv 0) (sv 40), kt .eql 3 (sv 1) (sv 40), kf .eql 71 (sv 29) (iv 1), kf .eql 71 (sv 29) (iv 2), kf .eql 71 (sv 29) (iv 3)], [], [([4, 1000001], (eSt 1 (.bool false) 2 [] (p8 2 42))), ([2, 1000001], (eSt 2 (iv 0) 2 (p8 2 42) (p8 2 42 ++ p8 18 50)))]⟩ [] ⟨asNeS u31 rfl, qT (n ≥ 0), qT (n < 8), iA u70 z4 rfl rfl, iA u30 z2 rfl rfl, eF s.x n, eT s.owner n, eF s.wt 1, eF s.wt 2, eF s.wt 3, trivial⟩ trivial ⟨st (st_sh s (lineV 1 s.line) 73 (q := n.toNat) (by omega) false), st (st_ops { s with sh := (upd s.sh n.toNat false) : St } (lineV 1 s.line) 73 (q := n.toNat) (by omega) (0)), trivial⟩ trivial 2 (lockL []) (lockP ++ [sv 40, sv 41]) [(0, 0), (1, 3)]
          · by_cases h26 : ((s.wt) : Int) = (1)
            · by_cases h27 : s.go n.toNat = true
              · exact ab ho
              · simp only [relS, if_neg h2, if_neg h18]
                exact pth (dg s ([iv n, iv op] ++ b8 (upd s.sh n.toNat false) ++ n8 (upd s.ops n.toNat (0)) ++ [.bool (s.go n.toNat)]) [(lineV 1 s.line), pt 0 (2 + n.toNat), pt 0 (18 + n.toNat), pt 0 (30 + n.toNat)] [encL s.line]) ⟨[kt .neq 31 (ch 0) (.slice none 0 0), kt .geq 3 (sv 40) (iv 0), kt .lss 3 (sv 40) (iv 8), kx 70 0 2 40 1, kx 30 0 18 40 2, kf .eql 3 (sv 0) (sv 40), kf .eql 3 (sv 1) (sv 40), kt .eql 71 (sv 29) (iv 1), kx 70 0 30 40 3, tf 58, kf .eql 71 (sv 29) (iv 2), kf .eql 71 (sv 29) (iv 3)], [], [([4, 1000001], (eSt 1 (.bool false) 2 [] (p8 2 42))), ([2, 1000001], (eSt 2 (iv 0) 2 (p8 2 42) (p8 2 42 ++ p8 18 50))), ([4, 1000000], (eLd 3 2 (p8 2 42 ++ p8 18 50) 58))]⟩ [] ⟨asNeS u31 rfl, qT (n ≥ 0), qT (n < 8), iA u70 z4 rfl rfl, iA u30 z2 rfl rfl, eF s.x n, eF s.owner n, eT s.wt 1, iA u70 z4 rfl rfl, tB (Bool.eq_false_iff.2 h27), eF s.wt 2, eF s.wt 3, trivial⟩ trivial ⟨st (st_sh s (lineV 1 s.line) 73 (q := n.toNat) (by omega) false), st (st_ops { s with sh := (upd s.sh n.toNat false) : St } (lineV 1 s.line) 73 (q := n.toNat) (by omega) (0)), ld (ld_go { s with sh := (upd s.sh n.toNat false), ops := (upd s.ops n.toNat (0)) : St } (lineV 1 s.line) 73 (q := n.toNat) (by omega)), trivial⟩ trivial 2 (lockL []) (lockP ++ [sv 40, sv 41]) [(0, 0), (1, 3)]
            · by_cases h28 : ((s.wt) : Int) = (2)
              · by_cases h29 : ((s.su) : Int) = (n)
                · by_cases h30 : ((op) : Int) < (s.op)
                  · by_cases h31 : ((s.hk) : Int) = (1)
                    · exact ab ho
                    · exact ab ho
                  · simp only [relS, if_neg h2, if_neg h18]
                    exact pth (dg s ([iv n, iv op] ++ b8 (upd s.sh n.toNat false) ++ n8 (upd s.ops n.toNat (0))) [(lineV 1 s.line), pt 0 (2 + n.toNat), pt 0 (18 + n.toNat)] [encL s.line]) ⟨[kt .neq 31 (ch 0) (.slice none 0 0), kt .geq 3 (sv 40) (iv 0), kt .lss 3 (sv 40) (iv 8), kx 70 0 2 40 1, kx 30 0 18 40 2, kf .eql 3 (sv 0) (sv 40), kf .eql 3 (sv 1) (sv 40), kf .eql 71 (sv 29) (iv 1), kt .eql 71 (sv 29) (iv 2), kt .eql 3 (sv 38) (sv 40), kf .lss 2 (sv 41) (sv 39), kf .eql 71 (sv 29) (iv 3)], [], [([4, 1000001], (eSt 1 (.bool false) 2 [] (p8 2 42))), ([2, 1000001], (eSt 2 (iv 0) 2 (p8 2 42) (p8 2 42 ++ p8 18 50)))]⟩ [] ⟨asNeS u31 rfl, qT (n ≥ 0), qT (n < 8), iA u70 z4 rfl rfl, iA u30 z2 rfl rfl, eF s.x n, eF s.owner n, eF s.wt 1, eT s.wt 2, eT s.su n, qF (op < s.op), eF s.wt 3, trivial⟩ trivial ⟨st (st_sh s (lineV 1 s.line) 73 (q := n.toNat) (by omega) false), st (st_ops { s with sh := (upd s.sh n.toNat false) : St } (lineV 1 s.line) 73 (q := n.toNat) (by omega) (0)), trivial⟩ trivial 2 (lockL []) (lockP ++ [sv 40, sv 41]) [(0, 0), (1, 3)]
                · simp only [relS, if_neg h2, if_neg h18]
                  exact pth (dg s ([iv n, iv op] ++ b8 (upd s.sh n.toNat false) ++ n8 (upd s.ops n.toNat (0))) [(lineV 1 s.line), pt 0 (2 + n.toNat), pt 0 (18 + n.toNat)] [encL s.line]) ⟨[kt .neq 31 (ch 0) (.slice none 0 0), kt .geq 3 (sv 40) (iv 0), kt .lss 3 (sv 40) (iv 8), kx 70 0 2 40 1, kx 30 0 18 40 2, kf .eql 3 (sv 0) (sv 40), kf .eql 3 (sv 1) (sv 40), kf .eql 71 (sv 29) (iv 1), kt .eql 71 (sv 29) (iv 2), kf .eql 3 (sv 38) (sv 40), kf .eql 71 (sv 29) (iv 3)], [], [([4, 1000001], (eSt 1 (.bool false) 2 [] (p8 2 42))), ([2, 1000001], (eSt 2 (iv 0) 2 (p8 2 42) (p8 2 42 ++ p8 18 50)))]⟩ [] ⟨asNeS u31 rfl, qT (n ≥ 0), qT (n < 8), iA u70 z4 rfl rfl, iA u30 z2 rfl rfl, eF s.x n, eF s.owner n, eF s.wt 1, eT s.wt 2, eF s.su n, eF s.wt 3, trivial⟩ trivial ⟨st (st_sh s (lineV 1 s.line) 73 (q := n.toNat) (by omega) false), st (st_ops { s with sh := (upd s.sh n.toNat false) : St } (lineV 1 s.line) 73 (q := n.toNat) (by omega) (0)), trivial⟩ trivial 2 (lockL []) (lockP ++ [sv 40, sv 41]) [(0, 0), (1, 3)]
              · by_cases h32 : ((s.wt) : Int) = (3)
                · simp only [relS, if_neg h2, if_neg h18]
                  exact pth (dg s ([iv n, iv op] ++ b8 (upd s.sh n.toNat false) ++ n8 (upd s.ops n.toNat (0))) [(lineV 1 s.line), pt 0 (2 + n.toNat), pt 0 (18 + n.toNat)] [encL s.line]) ⟨[kt .neq 31 (ch 0) (.slice none 0 0), kt .geq 3 (sv 40) (iv 0), kt .lss 3 (sv 40) (iv 8), kx 70 0 2 40 1, kx 30 0 18 40 2, kf .eql 3 (sv 0) (sv 40), kf .eql 3 (sv 1) (sv 40), kf .eql 71 (sv 29) (iv 1), kf .eql 71 (sv 29) (iv 2), kt .eql 71 (sv 29) (iv 3)], [], [([4, 1000001], (eSt 1 (.bool false) 2 [] (p8 2 42))), ([2, 1000001], (eSt 2 (iv 0) 2 (p8 2 42) (p8 2 42 ++ p8 18 50)))]⟩ [] ⟨asNeS u31 rfl, qT (n ≥ 0), qT (n < 8), iA u70 z4 rfl rfl, iA u30 z2 rfl rfl, eF s.x n, eF s.owner n, eF s.wt 1, eF s.wt 2, eT s.wt 3, trivial⟩ trivial ⟨st (st_sh s (lineV 1 s.line) 73 (q := n.toNat) (by omega) false), st (st_ops { s with sh := (upd s.sh n.toNat false) : St } (lineV 1 s.line) 73 (q := n.toNat) (by omega) (0)), trivial⟩ trivial 2 (lockL []) (lockP ++ [sv 40, sv 41]) [(0, 0), (1, 3)]
                · simp only [relS, if_neg h2, if_neg h18]
                  exact pth (dg s ([iv n, iv op] ++ b8 (upd s.sh n.toNat false) ++ n8 (upd s.ops n.toNat (0))) [(lineV 1 s.line), pt 0 (2 + n.toNat), pt 0 (18 + n.toNat)] [encL s.line]) ⟨[kt .neq 31 (ch 0) (.slice none 0 0), kt .geq 3 (sv 40) (iv 0), kt .lss 3 (sv 40) (iv 8), kx 70 0 2 40 1, kx 30 0 18 40 2, kf .eql 3 (sv 0) (sv 40), kf .eql 3 (sv 1) (sv 40), kf .eql 71 (sv 29) (iv 1), kf .eql 71 (sv 29) (iv 2), kf .eql 71 (sv 29) (iv 3)], [], [([4, 1000001], (eSt 1 (.bool false) 2 [] (p8 2 42))), ([2, 1000001], (eSt 2 (iv 0) 2 (p8 2 42) (p8 2 42 ++ p8 18 50)))]⟩ [] ⟨asNeS u31 rfl, qT (n ≥ 0), qT (n < 8), iA u70 z4 rfl rfl, iA u30 z2 rfl rfl, eF s.x n, eF s.owner n, eF s.wt 1, eF s.wt 2, eF s.wt 3, trivial⟩ trivial ⟨st (st_sh s (lineV 1 s.line) 73 (q := n.toNat) (by omega) false), st (st_ops { s with sh := (upd s.sh n.toNat false) : St } (lineV 1 s.line) 73 (q := n.toNat) (by omega) (0)), trivial⟩ trivial 2 (lockL []) (lockP ++ [sv 40, sv 41]) [(0, 0), (1, 3)]
      · exact ab ho
    · exact ab ho
theorem rel_left {s t : St} {n op : Int} {o : List Ord} (_hop : 0 ≤ s.op ∧ s.op < 4611686018427387904) (ho : (0 ≤ n ∧ n < 8) ∧ s.wt = 1 ∧ s.go n.toNat = true) (h : MC 66 [.int .i64 n] (relS s n) t o) : MC 26 [.int .i64 n, .int .i64 op] s t o := by
  obtain ⟨cap, hcap, hN⟩ := h
  refine MC.mk (cap := cap) ?_
  cases o with
  | nil =>
    · by_cases h0 : ((n) : Int) ≥ (0)
      · by_cases h1 : ((n) : Int) < (8)
        · by_cases h2 : ((s.x) : Int) = (n)
          · by_cases h3 : ((s.owner) : Int) = (n)
            · by_cases h4 : ((s.wt) : Int) = (1)
              · by_cases h5 : s.go n.toNat = true
                · simp only [relS, if_pos h2, if_pos h3] at hN
                  exact pth (dg s ([iv n, iv op] ++ b8 (upd s.sh n.toNat false) ++ n8 (upd s.ops n.toNat (0)) ++ [.bool (s.go n.toNat)] ++ tv t) [(lineV 1 s.line), pt 0 (2 + n.toNat), pt 0 (18 + n.toNat), pt 0 (30 + n.toNat), lineV 2 t.line] [encL s.line, encL t.line]) ⟨[kt .neq 31 (ch 0) (.slice none 0 0), kt .geq 3 (sv 40) (iv 0), kt .lss 3 (sv 40) (iv 8), kx 70 0 2 40 1, kx 30 0 18 40 2, kt .eql 3 (sv 0) (sv 40), kt .eql 3 (sv 1) (sv 40), kt .eql 71 (sv 29) (iv 1), kx 70 0 30 40 3, tt 58], [], [([4, 1000001], (eSt 1 (.bool false) 2 [] (p8 2 42))), ([2, 1000001], (eSt 2 (iv 0) 2 (p8 2 42) (p8 2 42 ++ p8 18 50))), ([4, 1000000], (eLd 3 2 ([(0, iv (-1)), (1, iv (-1))] ++ p8 2 42 ++ p8 18 50) 58))]⟩ [(66, [(eC0 [pt 0 0, sv 40] 2 ([(0, iv (-1)), (1, iv (-1))] ++ p8 2 42 ++ p8 18 50) 59 4 1 0 1)])] ⟨asNeS u31 rfl, qT (n ≥ 0), qT (n < 8), iA u70 z4 rfl rfl, iA u30 z2 rfl rfl, eT s.x n, eT s.owner n, eT s.wt 1, iA u70 z4 rfl rfl, tB h5, trivial⟩ trivial ⟨st (st_sh s (lineV 1 s.line) 73 (q := n.toNat) (by omega) false), st (st_ops { s with sh := (upd s.sh n.toNat false) : St } (lineV 1 s.line) 73 (q := n.toNat) (by omega) (0)), ld (ld_go { s with x := (-1), owner := (-1), sh := (upd s.sh n.toNat false), ops := (upd s.ops n.toNat (0)) : St } (lineV 1 s.line) 73 (q := n.toNat) (by omega)), trivial⟩ ⟨oe hN, trivial⟩ 2 (lockL []) (lockP ++ [sv 40, sv 41]) [(0, 0), (2, 3)]
                · exact ab ho
              · by_cases h6 : ((s.wt) : Int) = (2)
                · by_cases h7 : ((s.su) : Int) = (n)
                  · by_cases h8 : ((op) : Int) < (s.op)
                    · by_cases h9 : ((s.hk) : Int) = (1)
                      · exact ab ho
                      · exact ab ho
                    · exact ab ho
                  · exact ab ho
                · by_cases h10 : ((s.wt) : Int) = (3)
                  · exact ab ho
                  · exact ab ho
            · by_cases h11 : ((s.wt) : Int) = (1)
              · by_cases h12 : s.go n.toNat = true
                · simp only [relS, if_pos h2, if_neg h3] at hN
                  exact pth (dg s ([iv n, iv op] ++ b8 (upd s.sh n.toNat false) ++ n8 (upd s.ops n.toNat (0)) ++ [.bool (s.go n.toNat)] ++ tv t) [(lineV 1 s.line), pt 0 (2 + n.toNat), pt 0 (18 + n.toNat), pt 0 (30 + n.toNat), lineV 2 t.line] [encL s.line, encL t.line]) ⟨[kt .neq 31 (ch 0) (.slice none 0 0), kt .geq 3 (sv 40) (iv 0), kt .lss 3 (sv 40) (iv 8), kx 70 0 2 40 1, kx 30 0 18 40 2, kt .eql 3 (sv 0) (sv 40), kf .eql 3 (sv 1) (sv 40), kt .eql 71 (sv 29) (iv 1), kx 70 0 30 40 3, tt 58], [], [([4, 1000001], (eSt 1 (.bool false) 2 [] (p8 2 42))), ([2, 1000001], (eSt 2 (iv 0) 2 (p8 2 42) (p8 2 42 ++ p8 18 50))), ([4, 1000000], (eLd 3 2 ([(0, iv (-1))] ++ p8 2 42 ++ p8 18 50) 58))]⟩ [(66, [(eC0 [pt 0 0, sv 40] 2 ([(0, iv (-1))] ++ p8 2 42 ++ p8 18 50) 59 4 1 0 1)])] ⟨asNeS u31 rfl, qT (n ≥ 0), qT (n < 8), iA u70 z4 rfl rfl, iA u30 z2 rfl rfl, eT s.x n, eF s.owner n, eT s.wt 1, iA u70 z4 rfl rfl, tB h12, trivial⟩ trivial ⟨st (st_sh s (lineV 1 s.line) 73 (q := n.toNat) (by omega) false), st (st_ops { s with sh := (upd s.sh n.toNat false) : St } (lineV 1 s.line) 73 (q := n.toNat) (by omega) (0)), ld (ld_go { s with x := (-1), sh := (upd s.sh n.toNat false), ops := (upd s.ops n.toNat (0)) : St } (lineV 1 s.line) 73 (q := n.toNat) (by omega)), trivial⟩ ⟨oe hN, trivial⟩ 2 (lockL []) (lockP ++ [sv 40, sv 41]) [(0, 0), (2, 3)]
                · exact ab ho
              · by_cases h13 : ((s.wt) : Int) = (2)
                · by_cases h14 : ((s.su) : Int) = (n)
                  · by_cases h15 : ((op) : Int) < (s.op)
                    · by_cases h16 : ((s.hk) : Int) = (1)
                      · exact ab ho
                      · exact ab ho
                    · exact ab ho
                  · exact ab ho
                · by_cases h17 : ((s.wt) : Int) = (3)
                  · exact ab ho
                  · exact ab ho
          · by_cases h18 : ((s.owner) : Int) = (n)
            · by_cases h19 : ((s.wt) : Int) = (1)
              · by_cases h20 : s.go n.toNat = true
                · simp only [relS, if_neg h2, if_pos h18] at hN
                  exact pth (dg s ([iv n, iv op] ++ b8 (upd s.sh n.toNat false) ++ n8 (upd s.ops n.toNat (0)) ++ [.bool (s.go n.toNat)] ++ tv t) [(lineV 1 s.line), pt 0 (2 + n.toNat), pt 0 (18 + n.toNat), pt 0 (30 + n.toNat), lineV 2 t.line] [encL s.line, encL t.line]) ⟨[kt .neq 31 (ch 0) (.slice none 0 0), kt .geq 3 (sv 40) (iv 0), kt .lss 3 (sv 40) (iv 8), kx 70 0 2 40 1, kx 30 0 18 40 2, kf .eql 3 (sv 0) (sv 40), kt .eql 3 (sv 1) (sv 40), kt .eql 71 (sv 29) (iv 1), kx 70 0 30 40 3, tt 58], [], [([4, 1000001], (eSt 1 (.bool false) 2 [] (p8 2 42))), ([2, 1000001], (eSt 2 (iv 0) 2 (p8 2 42) (p8 2 42 ++ p8 18 50))), ([4, 1000000], (eLd 3 2 ([(1, iv (-1))] ++ p8 2 42 ++ p8 18 50) 58))]⟩ [(66, [(eC0 [pt 0 0, sv 40] 2 ([(1, iv (-1))] ++ p8 2 42 ++ p8 18 50) 59 4 1 0 1)])] ⟨asNeS u31 rfl, qT (n ≥ 0), qT (n < 8), iA u70 z4 rfl rfl, iA u30 z2 rfl rfl, eF s.x n, eT s.owner n, eT s.wt 1, iA u70 z4 rfl rfl, tB h20, trivial⟩ trivial ⟨st (st_sh s (lineV 1 s.line) 73 (q := n.toNat) (by omega) false), st (st_ops { s with sh := (upd s.sh n.toNat false) : St } (lineV 1 s.line) 73 (q := n.toNat) (by omega) (0)), ld (ld_go { s with owner := (-1), sh := (upd s.sh n.toNat false), ops := (upd s.ops n.toNat (0)) : St } (lineV 1 s.line) 73 (q := n.toNat) (by omega)), trivial⟩ ⟨oe hN, trivial⟩ 2 (lockL []) (lockP ++ [sv 40, sv 41]) [(0, 0), (2, 3)]
                · exact ab ho
              · by_cases h21 : ((s.wt) : Int) = (2)
                · by_cases h22 : ((s.su) : Int) = (n)
                  · by_cases h23 : ((op) : Int) < (s.op)
                    · by_cases h24 : ((s.hk) : Int) = (1)
                      · exact ab ho
                      · exact ab ho
                    · exact ab ho
                  · exact ab ho
                · by_cases h25 : ((s.wt) : Int) = (3)
                  · exact ab ho
                  · exact ab ho
            · by_cases h26 : ((s.wt) : Int) = (1)
              · by_cases h27 : s.go n.toNat = true
                · simp only [relS, if_neg h2, if_neg h18] at hN
                  exact pth (dg s ([iv n, iv op] ++ b8 (upd s.sh n.toNat false) ++ n8 (upd s.ops n.toNat (0)) ++ [.bool (s.go n.toNat)] ++ tv t) [(lineV 1 s.line), pt 0 (2 + n.toNat), pt 0 (18 + n.toNat), pt 0 (30 + n.toNat), lineV 2 t.line] [encL s.line, encL t.line]) ⟨[kt .neq 31 (ch 0) (.slice none 0 0), kt .geq 3 (sv 40) (iv 0), kt .lss 3 (sv 40) (iv 8), kx 70 0 2 40 1, kx 30 0 18 40 2, kf .eql 3 (sv 0) (sv 40), kf .eql 3 (sv 1) (sv 40), kt .eql 71 (sv 29) (iv 1), kx 70 0 30 40 3, tt 58], [], [([4, 1000001], (eSt 1 (.bool false) 2 [] (p8 2 42))), ([2, 1000001], (eSt 2 (iv 0) 2 (p8 2 42) (p8 2 42 ++ p8 18 50))), ([4, 1000000], (eLd 3 2 (p8 2 42 ++ p8 18 50) 58))]⟩ [(66, [(eC0 [pt 0 0, sv 40] 2 (p8 2 42 ++ p8 18 50) 59 4 1 0 1)])] ⟨asNeS u31 rfl, qT (n ≥ 0), qT (n < 8), iA u70 z4 rfl rfl, iA u30 z2 rfl rfl, eF s.x n, eF s.owner n, eT s.wt 1, iA u70 z4 rfl rfl, tB h27, trivial⟩ trivial ⟨st (st_sh s (lineV 1 s.line) 73 (q := n.toNat) (by omega) false), st (st_ops { s with sh := (upd s.sh n.toNat false) : St } (lineV 1 s.line) 73 (q := n.toNat) (by omega) (0)), ld (ld_go { s with sh := (upd s.sh n.toNat false), ops := (upd s.ops n.toNat (0)) : St } (lineV 1 s.line) 73 (q := n.toNat) (by omega)), trivial⟩ ⟨oe hN, trivial⟩ 2 (lockL []) (lockP ++ [sv 40, sv 41]) [(0, 0), (2, 3)]
                · exact ab ho
              · by_cases h28 : ((s.wt) : Int) = (2)
                · by_cases h29 : ((s.su) : Int) = (n)
                  · by_cases h30 : ((op) : Int) < (s.op)
                    · by_cases h31 : ((s.hk) : Int) = (1)
                      · exact ab ho
                      · exact ab ho
                    · exact ab ho
                  · exact ab ho
                · by_cases h32 : ((s.wt) : Int) = (3)
                  · exact ab ho
                  · exact ab ho
        · exact ab ho
      · exact ab ho
  | cons x l =>
    · by_cases h0 : ((n) : Int) ≥ (0)
      · by_cases h1 : ((n) : Int) < (8)
        · by_cases h2 : ((s.x) : Int) = (n)
          · by_cases h3 : ((s.owner) : Int) = (n)
            · by_cases h4 : ((s.wt) : Int) = (1)
              · by_cases h5 : s.go n.toNat = true
                · simp only [relS, if_pos h2, if_pos h3] at hN
                  exact pth (dg s ([iv n, iv op] ++ b8 (upd s.sh n.toNat false) ++ n8 (upd s.ops n.toNat (0)) ++ [.bool (s.go n.toNat)] ++ tv t) [(lineV 1 s.line), pt 0 (2 + n.toNat), pt 0 (18 + n.toNat), pt 0 (30 + n.toNat), lineV 2 t.line, .slice (some ⟨3, 0, none⟩) (x :: l).length cap] [encL s.line, encL t.line, encOrds (x :: l)]) ⟨[kt .neq 31 (ch 0) (.slice none 0 0), kt .geq 3 (sv 40) (iv 0), kt .lss 3 (sv 40) (iv 8), kx 70 0 2 40 1, kx 30 0 18 40 2, kt .eql 3 (sv 0) (sv 40), kt .eql 3 (sv 1) (sv 40), kt .eql 71 (sv 29) (iv 1), kx 70 0 30 40 3, tt 58], [], [([4, 1000001], (eSt 1 (.bool false) 2 [] (p8 2 42))), ([2, 1000001], (eSt 2 (iv 0) 2 (p8 2 42) (p8 2 42 ++ p8 18 50))), ([4, 1000000], (eLd 3 2 ([(0, iv (-1)), (1, iv (-1))] ++ p8 2 42 ++ p8 18 50) 58))]⟩ [(66, [(eC1 [pt 0 0, sv 40] 2 ([(0, iv (-1)), (1, iv (-1))] ++ p8 2 42 ++ p8 18 50) 59 4 1 0 1 2 (ch 5))])] ⟨asNeS u31 rfl, qT (n ≥ 0), qT (n < 8), iA u70 z4 rfl rfl, iA u30 z2 rfl rfl, eT s.x n, eT s.owner n, eT s.wt 1, iA u70 z4 rfl rfl, tB h5, trivial⟩ trivial ⟨st (st_sh s (lineV 1 s.line) 73 (q := n.toNat) (by omega) false), st (st_ops { s with sh := (upd s.sh n.toNat false) : St } (lineV 1 s.line) 73 (q := n.toNat) (by omega) (0)), ld (ld_go { s with x := (-1), owner := (-1), sh := (upd s.sh n.toNat false), ops := (upd s.ops n.toNat (0)) : St } (lineV 1 s.line) 73 (q := n.toNat) (by omega)), trivial⟩ ⟨oe hN, trivial⟩ 2 (lockL []) (lockP ++ [sv 40, sv 41]) [(0, 0), (2, 3), (3, 2)]
                · exact ab ho
              · by_cases h6 : ((s.wt) : Int) = (2)
                · by_cases h7 : ((s.su) : Int) = (n)
                  · by_cases h8 : ((op) : Int) < (s.op)
                    · by_cases h9 : ((s.hk) : Int) = (1)
                      · exact ab ho
                      · exact ab ho
                    · exact ab ho
                  · exact ab ho
                · by_cases h10 : ((s.wt) : Int) = (3)
                  · exact ab ho
                  · exact ab ho
            · by_cases h11 : ((s.wt) : Int) = (1)
              · by_cases h12 : s.go n.toNat = true
                · simp only [relS, if_pos h2, if_neg h3] at hN
                  exact pth (dg s ([iv n, iv op] ++ b8 (upd s.sh n.toNat false) ++ n8 (upd s.ops n.toNat (0)) ++ [.bool (s.go n.toNat)] ++ tv t) [(lineV 1 s.line), pt 0 (2 + n.toNat), pt 0 (18 + n.toNat), pt 0 (30 + n.toNat), lineV 2 t.line, .slice (some ⟨3, 0, none⟩) (x :: l).length cap] [encL s.line, encL t.line, encOrds (x :: l)]) ⟨[kt .neq 31 (ch 0) (.slice none 0 0), kt .geq 3 (sv 40) (iv 0), kt .lss 3 (sv 40) (iv 8), kx 70 0 2 40 1, kx 30 0 18 40 2, kt .eql 3 (sv 0) (sv 40), kf .eql 3 (sv 1) (sv 40), kt .eql 71 (sv 29) (iv 1), kx 70 0 30 40 3, tt 58], [], [([4, 1000001], (eSt 1 (.bool false) 2 [] (p8 2 42))), ([2, 1000001], (eSt 2 (iv 0) 2 (p8 2 42) (p8 2 42 ++ p8 18 50))), ([4, 1000000], (eLd 3 2 ([(0, iv (-1))] ++ p8 2 42 ++ p8 18 50) 58))]⟩ [(66, [(eC1 [pt 0 0, sv 40] 2 ([(0, iv (-1))] ++ p8 2 42 ++ p8 18 50) 59 4 1 0 1 2 (ch 5))])] ⟨asNeS u31 rfl, qT (n ≥ 0), qT (n < 8), iA u70 z4 rfl rfl, iA u30 z2 rfl rfl, eT s.x n, eF s.owner n, eT s.wt 1, iA u70 z4 rfl rfl, tB h12, trivial⟩ trivial ⟨st (st_sh s (lineV 1 s.line) 73 (q := n.toNat) (by omega) false), st (st_ops { s with sh := (upd s.sh n.toNat false) : St } (lineV 1 s.line) 73 (q := n.toNat) (by omega) (0)), ld (ld_go { s with x := (-1), sh := (upd s.sh n.toNat false), ops := (upd s.ops n.toNat (0)) : St } (lineV 1 s.line) 73 (q := n.toNat) (by omega)), trivial⟩ ⟨oe hN, trivial⟩ 2 (lockL []) (lockP ++ [sv 40, sv 41]) [(0, 0), (2, 3), (3, 2)]
                · exact ab ho
              · by_cases h13 : ((s.wt) : Int) = (2)
                · by_cases h14 : ((s.su) : Int) = (n)
                  · by_cases h15 : ((op) : Int) < (s.op)
                    · by_cases h16 : ((s.hk) : Int) = (1)
                      · exact ab ho
                      · exact ab ho
                    · exact ab ho
                  · exact ab ho
                · by_cases h17 : ((s.wt) : Int) = (3)
                  · exact ab ho
                  · exact ab ho
          · by_cases h18 : ((s.owner) : Int) = (n)
            · by_cases h19 : ((s.wt) : Int) = (1)
              · by_cases h20 : s.go n.toNat = true
                · simp only [relS, if_neg h2, if_pos h18] at hN
                  exact pth (dg s ([iv n, iv op] ++ b8 (upd s.sh n.toNat false) ++ n8 (upd s.ops n.toNat (0)) ++ [.bool (s.go n.toNat)] ++ tv t) [(lineV 1 s.line), pt 0 (2 + n.toNat), pt 0 (18 + n.toNat), pt 0 (30 + n.toNat), lineV 2 t.line, .slice (some ⟨3, 0, none⟩) (x :: l).length cap] [encL s.line, encL t.line, encOrds (x :: l)]) ⟨[kt .neq 31 (ch 0) (.slice none 0 0), kt .geq 3 (sv 40) (iv 0), kt .lss 3 (sv 40) (iv 8), kx 70 0 2 40 1, kx 30 0 18 40 2, kf .eql 3 (sv 0) (sv 40), kt .eql 3 (sv 1) (sv 40), kt .eql 71 (sv 29) (iv 1), kx 70 0 30 40 3, tt 58], [], [([4, 1000001], (eSt 1 (.bool false) 2 [] (p8 2 42))), ([2, 1000001], (eSt 2 (iv 0) 2 (p8 2 42) (p8 2 42 ++ p8 18 50))), ([4, 1000000], (eLd 3 2 ([(1, iv (-1))] ++ p8 2 42 ++ p8 18 50) 58))]⟩ [(66, [(eC1 [pt 0 0, sv 40] 2 ([(1, iv (-1))] ++ p8 2 42 ++ p8 18 50) 59 4 1 0 1 2 (ch 5))])] ⟨asNeS u31 rfl, qT (n ≥ 0), qT (n < 8), iA u70 z4 rfl rfl, iA u30 z2 rfl rfl, eF s.x n, eT s.owner n, eT s.wt 1, iA u70 z4 rfl rfl, tB h20, trivial⟩ trivial ⟨st (st_sh s (lineV 1 s.line) 73 (q := n.toNat) (by omega) false), st (st_ops { s with sh := (upd s.sh n.toNat false) : St } (lineV 1 s.line) 73 (q := n.toNat) (by omega) (0)), ld (ld_go { s with owner := (-1), sh := (upd s.sh n.toNat false), ops := (upd s.ops n.toNat (0)) : St } (lineV 1 s.line) 73 (q := n.toNat) (by omega)), trivial⟩ ⟨oe hN, trivial⟩ 2 (lockL []) (lockP ++ [sv 40, sv 41]) [(0, 0), (2, 3), (3, 2)]
                · exact ab ho
              · by_cases h21 : ((s.wt) : Int) = (2)
                · by_cases h22 : ((s.su) : Int) = (n)
                  · by_cases h23 : ((op) : Int) < (s.op)
                    · by_cases h24 : ((s.hk) : Int) = (1)
                      · exact ab ho
                      · exact ab ho
                    · exact ab ho
                  · exact ab ho
                · by_cases h25 : ((s.wt) : Int) = (3)
                  · exact ab ho
                  · exact ab ho
            · by_cases h26 : ((s.wt) : Int) = (1)
              · by_cases h27 : s.go n.toNat = true
                · simp only [relS, if_neg h2, if_neg h18] at hN
                  exact pth (dg s ([iv n, iv op] ++ b8 (upd s.sh n.toNat false) ++ n8 (upd s.ops n.toNat (0)) ++ [.bool (s.go n.toNat)] ++ tv t) [(lineV 1 s.line), pt 0 (2 + n.toNat), pt 0 (18 + n.toNat), pt 0 (30 + n.toNat), lineV 2 t.line, .slice (some ⟨3, 0, none⟩) (x :: l).length cap] [encL s.line, encL t.line, encOrds (x :: l)]) ⟨[kt .neq 31 (ch 0) (.slice none 0 0), kt .geq 3 (sv 40) (iv 0), kt .lss 3 (sv 40) (iv 8), kx 70 0 2 40 1, kx 30 0 18 40 2, kf .eql 3 (sv 0) (sv 40), kf .eql 3 (sv 1) (sv 40), kt .eql 71 (sv 29) (iv 1), kx 70 0 30 40 3, tt 58], [], [([4, 1000001], (eSt 1 (.bool false) 2 [] (p8 2 42))), ([2, 1000001], (eSt 2 (iv 0) 2 (p8 2 42) (p8 2 42 ++ p8 18 50))), ([4, 1000000], (eLd 3 2 (p8 2 42 ++ p8 18 50) 58))]⟩ [(66, [(eC1 [pt 0 0, sv 40] 2 (p8 2 42 ++ p8 18 50) 59 4 1 0 1 2 (ch 5))])] ⟨asNeS u31 rfl, qT (n ≥ 0), qT (n < 8), iA u70 z4 rfl rfl, iA u30 z2 rfl rfl, eF s.x n, eF s.owner n, eT s.wt 1, iA u70 z4 rfl rfl, tB h27, trivial⟩ trivial ⟨st (st_sh s (lineV 1 s.line) 73 (q := n.toNat) (by omega) false), st (st_ops { s with sh := (upd s.sh n.toNat false) : St } (lineV 1 s.line) 73 (q := n.toNat) (by omega) (0)), ld (ld_go { s with sh := (upd s.sh n.toNat false), ops := (upd s.ops n.toNat (0)) : St } (lineV 1 s.line) 73 (q := n.toNat) (by omega)), trivial⟩ ⟨oe hN, trivial⟩ 2 (lockL []) (lockP ++ [sv 40, sv 41]) [(0, 0), (2, 3), (3, 2)]
                · exact ab ho
              · by_cases h28 : ((s.wt) : Int) = (2)
                · by_cases h29 : ((s.su) : Int) = (n)
                  · by_cases h30 : ((op) : Int) < (s.op)
                    · by_cases h31 : ((s.hk) : Int) = (1)
                      · exact ab ho
                      · exact ab ho
                    · exact ab ho
                  · exact ab ho
                · by_cases h32 : ((s.wt) : Int) = (3)
                  · exact ab ho
                  · exact ab ho
        · exact ab ho
      · exact ab ho
theorem rel_sh {s t : St} {n op : Int} {o : List Ord} (hop : 0 ≤ s.op ∧ s.op < 4611686018427387904) (ho : (0 ≤ n ∧ n < 8) ∧ s.wt = 2 ∧ s.su = n ∧ op < s.op ∧ s.hk = 1) (h : MC 67 [] { relS s n with op := s.op + 1 } t o) : MC 26 [.int .i64 n, .int .i64 op] s t o := by
  obtain ⟨cap, hcap, hN⟩ := h
  refine MC.mk (cap := cap) ?_
  cases o with
  | nil =>
    · by_cases h0 : ((n) : Int) ≥ (0)
      · by_cases h1 : ((n) : Int) < (8)
        · by_cases h2 : ((s.x) : Int) = (n)
          · by_cases h3 : ((s.owner) : Int) = (n)
            · by_cases h4 : ((s.wt) : Int) = (1)
              · by_cases h5 : s.go n.toNat = true
                · exact ab ho
                · exact ab ho
              · by_cases h6 : ((s.wt) : Int) = (2)
                · by_cases h7 : ((s.su) : Int) = (n)
                  · by_cases h8 : ((op) : Int) < (s.op)
                    · by_cases h9 : ((s.hk) : Int) = (1)
                      · simp only [relS, if_pos h2, if_pos h3] at hN
                        exact pth (dg s ([iv n, iv op] ++ b8 (upd s.sh n.toNat false) ++ n8 (upd s.ops n.toNat (0)) ++ [iv ((s.op) + (1))] ++ tv t) [(lineV 1 s.line), pt 0 (2 + n.toNat), pt 0 (18 + n.toNat), lineV 2 t.line] [encL s.line, encL t.line]) ⟨[kt .neq 31 (ch 0) (.slice none 0 0), kt .geq 3 (sv 40) (iv 0), kt .lss 3 (sv 40) (iv 8), kx 70 0 2 40 1, kx 30 0 18 40 2, kt .eql 3 (sv 0) (sv 40), kt .eql 3 (sv 1) (sv 40), kf .eql 71 (sv 29) (iv 1), kt .eql 71 (sv 29) (iv 2), kt .eql 3 (sv 38) (sv 40), kt .lss 2 (sv 41) (sv 39), (.bin .add 2 (sv 39) (iv 1), sv 58), kt .eql 32 (sv 28) (iv 1)], [], [([4, 1000001], (eSt 1 (.bool false) 2 [] (p8 2 42))), ([2, 1000001], (eSt 2 (iv 0) 2 (p8 2 42) (p8 2 42 ++ p8 18 50)))]⟩ [(67, [(eC0 [pt 0 0] 2 ([(0, iv (-1)), (1, iv (-1))] ++ p8 2 42 ++ p8 18 50 ++ [(39, sv 58)]) 59 3 1 0 1)])] ⟨asNeS u31 rfl, qT (n ≥ 0), qT (n < 8), iA u70 z4 rfl rfl, iA u30 z2 rfl rfl, eT s.x n, eT s.owner n, eF s.wt 1, eT s.wt 2, eT s.su n, qT (op < s.op), asP (u := iv ((s.op) + (1))) (Eq.trans (b := some (iv (IntKind.i64.wrap ((s.op) + (1))))) (by kernel_rfl) (by rw [wrap_id (by omega) (by omega)])) (by kernel_rfl), eT s.hk 1, trivial⟩ trivial ⟨st (st_sh s (lineV 1 s.line) 73 (q := n.toNat) (by omega) false), st (st_ops { s with sh := (upd s.sh n.toNat false) : St } (lineV 1 s.line) 73 (q := n.toNat) (by omega) (0)), trivial⟩ ⟨oe hN, trivial⟩ 2 (lockL []) (lockP ++ [sv 40, sv 41]) [(0, 0), (2, 3)]
                      · exact ab ho
                    · exact ab ho
                  · exact ab ho
                · by_cases h10 : ((s.wt) : Int) = (3)
                  · exact ab ho
                  · exact ab ho
            · by_cases h11 : ((s.wt) : Int) = (1)
              · by_cases h12 : s.go n.toNat = true
                · exact ab ho
                · exact ab ho
              · by_cases h13 : ((s.wt) : Int) = (2)
                · by_cases h14 : ((s.su) : Int) = (n)
                  · by_cases h15 : ((op) : Int) < (s.op)
                    · by_cases h16 : ((s.hk) : Int) = (1)
                      · simp only [relS, if_pos h2, if_neg h3] at hN
                        exact pth (dg s ([iv n, iv op] ++ b8 (upd s.sh n.toNat false) ++ n8 (upd s.ops n.toNat (0)) ++ [iv ((s.op) + (1))] ++ tv t) [(lineV 1 s.line), pt 0 (2 + n.toNat), pt 0 (18 + n.toNat), lineV 2 t.line] [encL s.line, encL t.line]) ⟨[kt .neq 31 (ch 0) (.slice none 0 0), kt .geq 3 (sv 40) (iv 0), kt .lss 3 (sv 40) (iv 8), kx 70 0 2 40 1, kx 30 0 18 40 2, kt .eql 3 (sv 0) (sv 40), kf .eql 3 (sv 1) (sv 40), kf .eql 71 (sv 29) (iv 1), kt .eql 71 (sv 29) (iv 2), kt .eql 3 (sv 38) (sv 40), kt .lss 2 (sv 41) (sv 39), (.bin .add 2 (sv 39) (iv 1), sv 58), kt .eql 32 (sv 28) (iv 1)], [], [([4, 1000001], (eSt 1 (.bool false) 2 [] (p8 2 42))), ([2, 1000001], (eSt 2 (iv 0) 2 (p8 2 42) (p8 2 42 ++ p8 18 50)))]⟩ [(67, [(eC0 [pt 0 0] 2 ([(0, iv (-1))] ++ p8 2 42 ++ p8 18 50 ++ [(39, sv 58)]) 59 3 1 0 1)])] ⟨asNeS u31 rfl, qT (n ≥ 0), qT (n < 8), iA u70 z4 rfl rfl, iA u30 z2 rfl rfl, eT s.x n, eF s.owner n, eF s.wt 1, eT s.wt 2, eT s.su n, qT (op < s.op), asP (u := iv ((s.op) + (1))) (Eq.trans (b := some (iv (IntKind.i64.wrap ((s.op) + (1))))) (by kernel_rfl) (by rw [wrap_id (by omega) (by omega)])) (by kernel_rfl), eT s.hk 1, trivial⟩ trivial ⟨st (st_sh s (lineV 1 s.line) 73 (q := n.toNat) (by omega) false), st (st_ops { s with sh := (upd s.sh n.toNat false) : St } (lineV 1 s.line) 73 (q := n.toNat) (by omega) (0)), trivial⟩ ⟨oe hN, trivial⟩ 2 (lockL []) (lockP ++ [sv 40, sv 41]) [(0, 0), (2, 3)]
                      · exact ab ho
                    · exact ab ho
                  · exact ab ho
                · by_cases h17 : ((s.wt) : Int) = (3)
                  · exact ab ho
                  · exact ab ho
          · by_cases h18 : ((s.owner) : Int) = (n)
            · by_cases h19 : ((s.wt) : Int) = (1)
              · by_cases h20 : s.go n.toNat = true
                · exact ab ho
                · exact ab ho
              · by_cases h21 : ((s.wt) : Int) = (2)
                · by_cases h22 : ((s.su) : Int) = (n)
                  · by_cases h23 : ((op) : Int) < (s.op)
                    · by_cases h24 : ((s.hk) : Int) = (1)
                      · simp only [relS, if_neg h2, if_pos h18] at hN
                        exact pth (dg s ([iv n, iv op] ++ b8 (upd s.sh n.toNat false) ++ n8 (upd s.ops n.toNat (0)) ++ [iv ((s.op) + (1))] ++ tv t) [(lineV 1 s.line), pt 0 (2 + n.toNat), pt 0 (18 + n.toNat), lineV 2 t.line] [encL s.line, encL t.line]) ⟨[kt .neq 31 (ch 0) (.slice none 0 0), kt .geq 3 (sv 40) (iv 0), kt .lss 3 (sv 40) (iv 8), kx 70 0 2 40 1, kx 30 0 18 40 2, kf .eql 3 (sv 0) (sv 40), kt .eql 3 (sv 1) (sv 40), kf .eql 71 (sv 29) (iv 1), kt .eql 71 (sv 29) (iv 2), kt .eql 3 (sv 38) (sv 40), kt .lss 2 (sv 41) (sv 39), (.bin .add 2 (sv 39) (iv 1), sv 58), kt .eql 32 (sv 28) (iv 1)], [], [([4, 1000001], (eSt 1 (.bool false) 2 [] (p8 2 42))), ([2, 1000001], (eSt 2 (iv 0) 2 (p8 2 42) (p8 2 42 ++ p8 18 50)))]⟩ [(67, [(eC0 [pt 0 0] 2 ([(1, iv (-1))] ++ p8 2 42 ++ p8 18 50 ++ [(39, sv 58)]) 59 3 1 0 1)])] ⟨asNeS u31 rfl, qT (n ≥ 0), qT (n < 8), iA u70 z4 rfl rfl, iA u30 z2 rfl rfl, eF s.x n, eT s.owner n, eF s.wt 1, eT s.wt 2, eT s.su n, qT (op < s.op), asP (u := iv ((s.op) + (1))) (Eq.trans (b := some (iv (IntKind.i64.wrap ((s.op) + (1))))) (by kernel_rfl) (by rw [wrap_id (by omega) (by omega)])) (by kernel_rfl), eT s.hk 1, trivial⟩ trivial ⟨st (st_sh s (lineV 1 s.line) 73 (q := n.toNat) (by omega) false), st (st_ops { s with sh := (upd s.sh n.toNat false) : St } (lineV 1 s.line) 73 (q := n.toNat) (by omega) (0)), trivial⟩ ⟨oe hN, trivial⟩ 2 (lockL []) (lockP ++ [sv 40, sv 41]) [(0, 0), (2, 3)]
                      · exact ab ho
                    · exact ab ho
                  · exact ab ho
                · by_cases h25 : ((s.wt) : Int) = (3)
                  · exact ab ho
                  · exact ab ho
            · by_cases h26 : ((s.wt) : Int) = (1)
              · by_cases h27 : s.go n.toNat = true
                · exact ab ho
                · exact ab ho
              · by_cases h28 : ((s.wt) : Int) = (2)
                · by_cases h29 : ((s.su) : Int) = (n)
                  · by_cases h30 : ((op) : Int) < (s.op)
                    · by_cases h31 : ((s.hk) : Int) = (1)
                      · simp only [relS, if_neg h2, if_neg h18] at hN
                        exact pth (dg s ([iv n, iv op] ++ b8 (upd s.sh n.toNat false) ++ n8 (upd s.ops n.toNat (0)) ++ [iv ((s.op) + (1))] ++ tv t) [(lineV 1 s.line), pt 0 (2 + n.toNat), pt 0 (18 + n.toNat), lineV 2 t.line] [encL s.line, encL t.line]) ⟨[kt .neq 31 (ch 0) (.slice none 0 0), kt .geq 3 (sv 40) (iv 0), kt .lss 3 (sv 40) (iv 8), kx 70 0 2 40 1, kx 30 0 18 40 2, kf .eql 3 (sv 0) (sv 40), kf .eql 3 (sv 1) (sv 40), kf .eql 71 (sv 29) (iv 1), kt .eql 71 (sv 29) (iv 2), kt .eql 3 (sv 38) (sv 40), kt .lss 2 (sv 41) (sv 39), (.bin .add 2 (sv 39) (iv 1), sv 58), kt .eql 32 (sv 28) (iv 1)], [], [([4, 1000001], (eSt 1 (.bool false) 2 [] (p8 2 42))), ([2, 1000001], (eSt 2 (iv 0) 2 (p8 2 42) (p8 2 42 ++ p8 18 50)))]⟩ [(67, [(eC0 [pt 0 0] 2 (p8 2 42 ++ p8 18 50 ++ [(39, sv 58)]) 59 3 1 0 1)])] ⟨asNeS u31 rfl, qT (n ≥ 0), qT (n < 8), iA u70 z4 rfl rfl, iA u30 z2 rfl rfl, eF s.x n, eF s.owner n, eF s.wt 1, eT s.wt 2, eT s.su n, qT (op < s.op), asP (u := iv ((s.op) + (1))) (Eq.trans (b := some (iv (IntKind.i64.wrap ((s.op) + (1))))) (by kernel_rfl) (by rw [wrap_id (by omega) (by omega)])) (by kernel_rfl), eT s.hk 1, trivial⟩ trivial ⟨st (st_sh s (lineV 1 s.line) 73 (q := n.toNat) (by omega) false), st (st_ops { s with sh := (upd s.sh n.toNat false) : St } (lineV 1 s.line) 73 (q := n.toNat) (by omega) (0)), trivial⟩ ⟨oe hN, trivial⟩ 2 (lockL []) (lockP ++ [sv 40, sv 41]) [(0, 0), (2, 3)]
                      · exact ab ho
                    · exact ab ho
                  · exact ab ho
                · by_cases h32 : ((s.wt) : Int) = (3)
                  · exact ab ho
                  · exact ab ho
        · exact ab ho
      · exact ab ho
  | cons x l =>
    · by_cases h0 : ((n) : Int) ≥ (0)
      · by_cases h1 : ((n) : Int) < (8)
        · by_cases h2 : ((s.x) : Int) = (n)
          · by_cases h3 : ((s.owner) : Int) = (n)
            · by_cases h4 : ((s.wt) : Int) = (1)
              · by_cases h5 : s.go n.toNat = true
                · exact ab ho
                · exact ab ho
              · by_cases h6 : ((s.wt) : Int) = (2)
                · by_cases h7 : ((s.su) : Int) = (n)
                  · by_cases h8 : ((op) : Int) < (s.op)
                    · by_cases h9 : ((s.hk) : Int) = (1)
                      · simp only [relS, if_pos h2, if_pos h3] at hN
                        exact pth (dg s ([iv n, iv op] ++ b8 (upd s.sh n.toNat false) ++ n8 (upd s.ops n.toNat (0)) ++ [iv ((s.op) + (1))] ++ tv t) [(lineV 1 s.line), pt 0 (2 + n.toNat), pt 0 (18 + n.toNat), lineV 2 t.line, .slice (some ⟨3, 0, none⟩) (x :: l).length cap] [encL s.line, encL t.line, encOrds (x :: l)]) ⟨[kt .neq 31 (ch 0) (.slice none 0 0), kt .geq 3 (sv 40) (iv 0), kt .lss 3 (sv 40) (iv 8), kx 70 0 2 40 1, kx 30 0 18 40 2, kt .eql 3 (sv 0) (sv 40), kt .eql 3 (sv 1) (sv 40), kf .eql 71 (sv 29) (iv 1), kt .eql 71 (sv 29) (iv 2), kt .eql 3 (sv 38) (sv 40), kt .lss 2 (sv 41) (sv 39), (.bin .add 2 (sv 39) (iv 1), sv 58), kt .eql 32 (sv 28) (iv 1)], [], [([4, 1000001], (eSt 1 (.bool false) 2 [] (p8 2 42))), ([2, 1000001], (eSt 2 (iv 0) 2 (p8 2 42) (p8 2 42 ++ p8 18 50)))]⟩ [(67, [(eC1 [pt 0 0] 2 ([(0, iv (-1)), (1, iv (-1))] ++ p8 2 42 ++ p8 18 50 ++ [(39, sv 58)]) 59 3 1 0 1 2 (ch 4))])] ⟨asNeS u31 rfl, qT (n ≥ 0), qT (n < 8), iA u70 z4 rfl rfl, iA u30 z2 rfl rfl, eT s.x n, eT s.owner n, eF s.wt 1, eT s.wt 2, eT s.su n, qT (op < s.op), asP (u := iv ((s.op) + (1))) (Eq.trans (b := some (iv (IntKind.i64.wrap ((s.op) + (1))))) (by kernel_rfl) (by rw [wrap_id (by omega) (by omega)])) (by kernel_rfl), eT s.hk 1, trivial⟩ trivial ⟨st (st_sh s (lineV 1 s.line) 73 (q := n.toNat) (by omega) false), st (st_ops { s with sh := (upd s.sh n.toNat false) : St } (lineV 1 s.line) 73 (q := n.toNat) (by omega) (0)), trivial⟩ ⟨oe hN, trivial⟩ 2 (lockL []) (lockP ++ [sv 40, sv 41]) [(0, 0), (2, 3), (3, 2)]
                      · exact ab ho
                    · exact ab ho
                  · exact ab ho
                · by_cases h10 : ((s.wt) : Int) = (3)
                  · exact ab ho
                  · exact ab ho
            · by_cases h11 : ((s.wt) : Int) = (1)
              · by_cases h12 : s.go n.toNat = true
                · exact ab ho
                · exact ab ho
              · by_cases h13 : ((s.wt) : Int) = (2)
                · by_cases h14 : ((s.su) : Int) = (n)
                  · by_cases h15 : ((op) : Int) < (s.op)
                    · by_cases h16 : ((s.hk) : Int) = (1)
                      · simp only [relS, if_pos h2, if_neg h3] at hN
                        exact pth (dg s ([iv n, iv op] ++ b8 (upd s.sh n.toNat false) ++ n8 (upd s.ops n.toNat (0)) ++ [iv ((s.op) + (1))] ++ tv t) [(lineV 1 s.line), pt 0 (2 + n.toNat), pt 0 (18 + n.toNat), lineV 2 t.line, .slice (some ⟨3, 0, none⟩) (x :: l).length cap] [encL s.line, encL t.line, encOrds (x :: l)]) ⟨[kt .neq 31 (ch 0) (.slice none 0 0), kt .geq 3 (sv 40) (iv 0), kt .lss 3 (sv 40) (iv 8), kx 70 0 2 40 1, kx 30 0 18 40 2, kt .eql 3 (sv 0) (sv 40), kf .eql 3 (sv 1) (sv 40), kf .eql 71 (sv 29) (iv 1), kt .eql 71 (sv 29) (iv 2), kt .eql 3 (sv 38) (sv 40), kt .lss 2 (sv 41) (sv 39), (.bin .add 2 (sv 39) (iv 1), sv 58), kt .eql 32 (sv 28) (iv 1)], [], [([4, 1000001], (eSt 1 (.bool false) 2 [] (p8 2 42))), ([2, 1000001], (eSt 2 (iv 0) 2 (p8 2 42) (p8 2 42 ++ p8 18 50)))]⟩ [(67, [(eC1 [pt 0 0] 2 ([(0, iv (-1))] ++ p8 2 42 ++ p8 18 50 ++ [(39, sv 58)]) 59 3 1 0 1 2 (ch 4))])] ⟨asNeS u31 rfl, qT (n ≥ 0), qT (n < 8), iA u70 z4 rfl rfl, iA u30 z2 rfl rfl, eT s.x n, eF s.owner n, eF s.wt 1, eT s.wt 2, eT s.su n, qT (op < s.op), asP (u := iv ((s.op) + (1))) (Eq.trans (b := some (iv (IntKind.i64.wrap ((s.op) + (1))))) (by kernel_rfl) (by rw [wrap_id (by omega) (by omega)])) (by kernel_rfl), eT s.hk 1, trivial⟩ trivial ⟨st (st_sh s (lineV 1 s.line) 73 (q := n.toNat) (by omega) false), st (st_ops { s with sh := (upd s.sh n.toNat false) : St } (lineV 1 s.line) 73 (q := n.toNat) (by omega) (0)), trivial⟩ ⟨oe hN, trivial⟩ 2 (lockL []) (lockP ++ [sv 40, sv 41]) [(0, 0), (2, 3), (3, 2)]
                      · exact ab ho
                    · exact ab ho
                  · exact ab ho
                · by_cases h17 : ((s.wt) : Int) = (3)
                  · exact ab ho
                  · exact ab ho
          · by_cases h18 : ((s.owner) : Int) = (n)
            · by_cases h19 : ((s.wt) : Int) = (1)
              · by_cases h20 : s.go n.toNat = true
                · exact ab ho
                · exact ab ho
              · by_cases h21 : ((s.wt) : Int) = (2)
                · by_cases h22 : ((s.su) : Int) = (n)
                  · by_cases h23 : ((op) : Int) < (s.op)
                    · by_cases h24 : ((s.hk) : Int) = (1)
                      · simp only [relS, if_neg h2, if_pos h18] at hN
                        exact pth (dg s ([iv n, iv op] ++ b8 (upd s.sh n.toNat false) ++ n8 (upd s.ops n.toNat (0)) ++ [iv ((s.op) + (1))] ++ tv t) [(lineV 1 s.line), pt 0 (2 + n.toNat), pt 0 (18 + n.toNat), lineV 2 t.line, .slice (some ⟨3, 0, none⟩) (x :: l).length cap] [encL s.line, encL t.line, encOrds (x :: l)]) ⟨[kt .neq 31 (ch 0) (.slice none 0 0), kt .geq 3 (sv 40) (iv 0), kt .lss 3 (sv 40) (iv 8), kx 70 0 2 40 1, kx 30 0 18 40 2, kf .eql 3 (sv 0) (sv 40), kt .eql 3 (sv 1) (sv 40), kf .eql 71 (sv 29) (iv 1), kt .eql 71 (sv 29) (iv 2), kt .eql 3 (sv 38) (sv 40), kt .lss 2 (sv 41) (sv 39), (.bin .add 2 (sv 39) (iv 1), sv 58), kt .eql 32 (sv 28) (iv 1)], [], [([4, 1000001], (eSt 1 (.bool false) 2 [] (p8 2 42))), ([2, 1000001], (eSt 2 (iv 0) 2 (p8 2 42) (p8 2 42 ++ p8 18 50)))]⟩ [(67, [(eC1 [pt 0 0] 2 ([(1, iv (-1))] ++ p8 2 42 ++ p8 18 50 ++ [(39, sv 58)]) 59 3 1 0 1 2 (ch 4))])] ⟨asNeS u31 rfl, qT (n ≥ 0), qT (n < 8), iA u70 z4 rfl rfl, iA u30 z2 rfl rfl, eF s.x n, eT s.owner n, eF s.wt 1, eT s.wt 2, eT s.su n, qT (op < s.op), asP (u := iv ((s.op) + (1))) (Eq.trans (b := some (iv (IntKind.i64.wrap ((s.op) + (1))))) (by kernel_rfl) (by rw [wrap_id (by omega) (by omega)])) (by kernel_rfl), eT s.hk 1, trivial⟩ trivial ⟨st (st_sh s (lineV 1 s.line) 73 (q := n.toNat) (by omega) false), st (st_ops { s with sh := (upd s.sh n.toNat false) : St } (lineV 1 s.line) 73 (q := n.toNat) (by omega) (0)), trivial⟩ ⟨oe hN, trivial⟩ 2 (lockL []) (lockP ++ [sv 40, sv 41]) [(0, 0), (2, 3), (3, 2)]
                      · exact ab ho
                    · exact ab ho
                  · exact ab ho
                · by_cases h25 : ((s.wt) : Int) = (3)
                  · exact ab ho
                  · exact ab ho
            · by_cases h26 : ((s.wt) : Int) = (1)
              · by_cases h27 : s.go n.toNat = true
                · exact ab ho
                · exact ab ho
              · by_cases h28 : ((s.wt) : Int) = (2)
                · by_cases h29 : ((s.su) : Int) = (n)
                  · by_cases h30 : ((op) : Int) < (s.op)
                    · by_cases h31 : ((s.hk) : Int) = (1)
                      · simp only [relS, if_neg h2, if_neg h18] at hN
                        exact pth (dg s ([iv n, iv op] ++ b8 (upd s.sh n.toNat false) ++ n8 (upd s.ops n.toNat (0)) ++ [iv ((s.op) + (1))] ++ tv t) [(lineV 1 s.line), pt 0 (2 + n.toNat), pt 0 (18 + n.toNat), lineV 2 t.line, .slice (some ⟨3, 0, none⟩) (x :: l).length cap] [encL s.line, encL t.line, encOrds (x :: l)]) ⟨[kt .neq 31 (ch 0) (.slice none 0 0), kt .geq 3 (sv 40) (iv 0), kt .lss 3 (sv 40) (iv 8), kx 70 0 2 40 1, kx 30 0 18 40 2, kf .eql 3 (sv 0) (sv 40), kf .eql 3 (sv 1) (sv 40), kf .eql 71 (sv 29) (iv 1), kt .eql 71 (sv 29) (iv 2), kt .eql 3 (sv 38) (sv 40), kt .lss 2 (sv 41) (sv 39), (.bin .add 2 (sv 39) (iv 1), sv 58), kt .eql 32 (sv 28) (iv 1)], [], [([4, 1000001], (eSt 1 (.bool false) 2 [] (p8 2 42))), ([2, 1000001], (eSt 2 (iv 0) 2 (p8 2 42) (p8 2 42 ++ p8 18 50)))]⟩ [(67, [(eC1 [pt 0 0] 2 (p8 2 42 ++ p8 18 50 ++ [(39, sv 58)]) 59 3 1 0 1 2 (ch 4))])] ⟨asNeS u31 rfl, qT (n ≥ 0), qT (n < 8), iA u70 z4 rfl rfl, iA u30 z2 rfl rfl, eF s.x n, eF s.owner n, eF s.wt 1, eT s.wt 2, eT s.su n, qT (op < s.op), asP (u := iv ((s.op) + (1))) (Eq.trans (b := some (iv (IntKind.i64.wrap ((s.op) + (1))))) (by kernel_rfl) (by rw [wrap_id (by omega) (by omega)])) (by kernel_rfl), eT s.hk 1, trivial⟩ trivial ⟨st (st_sh s (lineV 1 s.line) 73 (q := n.toNat) (by omega) false), st (st_ops { s with sh := (upd s.sh n.toNat false) : St } (lineV 1 s.line) 73 (q := n.toNat) (by omega) (0)), trivial⟩ ⟨oe hN, trivial⟩ 2 (lockL []) (lockP ++ [sv 40, sv 41]) [(0, 0), (2, 3), (3, 2)]
                      · exact ab ho
                    · exact ab ho
                  · exact ab ho
                · by_cases h32 : ((s.wt) : Int) = (3)
                  · exact ab ho
                  · exact ab ho
        · exact ab ho
      · exact ab ho
theorem rel_ex {s t : St} {n op : Int} {o : List Ord} (hop : 0 ≤ s.op ∧ s.op < 4611686018427387904) (ho : (0 ≤ n ∧ n < 8) ∧ s.wt = 2 ∧ s.su = n ∧ op < s.op ∧ ¬ s.hk = 1) (h : MC 68 [] { relS s n with op := s.op + 1 } t o) : MC 26 [.int .i64 n, .int .i64 op] s t o := by
  obtain ⟨cap, hcap, hN⟩ := h
  refine MC.mk (cap := cap) ?_
  cases o with
  | nil =>
    · by_cases h0 : ((n) : Int) ≥ (0)
      · by_cases h1 : ((n) : Int) < (8)
        · by_cases h2 : ((s.x) : Int) = (n)
          · by_cases h3 : ((s.owner) : Int) = (n)
            · by_cases h4 : ((s.wt) : Int) = (1)
              · by_cases h5 : s.go n.toNat = true
                · exact ab ho
                · exact ab ho
              · by_cases h6 : ((s.wt) : Int) = (2)
                · by_cases h7 : ((s.su) : Int) = (n)
                  · by_cases h8 : ((op) : Int) < (s.op)
                    · by_cases h9 : ((s.hk) : Int) = (1)
                      · exact ab ho
                      · simp only [relS, if_pos h2, if_pos h3] at hN
                        exact pth (dg s ([iv n, iv op] ++ b8 (upd s.sh n.toNat false) ++ n8 (upd s.ops n.toNat (0)) ++ [iv ((s.op) + (1))] ++ tv t) [(lineV 1 s.line), pt 0 (2 + n.toNat), pt 0 (18 + n.toNat), lineV 2 t.line] [encL s.line, encL t.line]) ⟨[kt .neq 31 (ch 0) (.slice none 0 0), kt .geq 3 (sv 40) (iv 0), kt .lss 3 (sv 40) (iv 8), kx 70 0 2 40 1, kx 30 0 18 40 2, kt .eql 3 (sv 0) (sv 40), kt .eql 3 (sv 1) (sv 40), kf .eql 71 (sv 29) (iv 1), kt .eql 71 (sv 29) (iv 2), kt .eql 3 (sv 38) (sv 40), kt .lss 2 (sv 41) (sv 39), (.bin .add 2 (sv 39) (iv 1), sv 58), kf .eql 32 (sv 28) (iv 1)], [], [([4, 1000001], (eSt 1 (.bool false) 2 [] (p8 2 42))), ([2, 1000001], (eSt 2 (iv 0) 2 (p8 2 42) (p8 2 42 ++ p8 18 50)))]⟩ [(68, [(eC0 [pt 0 0] 2 ([(0, iv (-1)), (1, iv (-1))] ++ p8 2 42 ++ p8 18 50 ++ [(39, sv 58)]) 59 3 1 0 1)])] ⟨asNeS u31 rfl, qT (n ≥ 0), qT (n < 8), iA u70 z4 rfl rfl, iA u30 z2 rfl rfl, eT s.x n, eT s.owner n, eF s.wt 1, eT s.wt 2, eT s.su n, qT (op < s.op), asP (u := iv ((s.op) + (1))) (Eq.trans (b := some (iv (IntKind.i64.wrap ((s.op) + (1))))) (by kernel_rfl) (by rw [wrap_id (by omega) (by omega)])) (by kernel_rfl), eF s.hk 1, trivial⟩ trivial ⟨st (st_sh s (lineV 1 s.line) 73 (q := n.toNat) (by omega) false), st (st_ops { s with sh := (upd s.sh n.toNat false) : St } (lineV 1 s.line) 73 (q := n.toNat) (by omega) (0)), trivial⟩ ⟨oe hN, trivial⟩ 2 (lockL []) (lockP ++ [sv 40, sv 41]) [(0, 0), (2, 3)]
                    · exact ab ho
                  · exact ab ho
                · by_cases h10 : ((s.wt) : Int) = (3)
                  · exact ab ho
                  · exact ab ho
            · by_cases h11 : ((s.wt) : Int) = (1)
              · by_cases h12 : s.go n.toNat = true
                · exact ab ho
                · exact ab ho
              · by_cases h13 : ((s.wt) : Int) = (2)
                · by_cases h14 : ((s.su) : Int) = (n)
                  · by_cases h15 : ((op) : Int) < (s.op)
                    · by_cases h16 : ((s.hk) : Int) = (1)
                      · exact ab ho
                      · simp only [relS, if_pos h2, if_neg h3] at hN
                        exact pth (dg s ([iv n, iv op] ++ b8 (upd s.sh n.toNat false) ++ n8 (upd s.ops n.toNat (0)) ++ [iv ((s.op) + (1))] ++ tv t) [(lineV 1 s.line), pt 0 (2 + n.toNat), pt 0 (18 + n.toNat), lineV 2 t.line] [encL s.line, encL t.line]) ⟨[kt .neq 31 (ch 0) (.slice none 0 0), kt .geq 3 (sv 40) (iv 0), kt .lss 3 (sv 40) (iv 8), kx 70 0 2 40 1, kx 30 0 18 40 2, kt .eql 3 (sv 0) (sv 40), kf .eql 3 (sv 1) (sv 40), kf .eql 71 (sv 29) (iv 1), kt .eql 71 (sv 29) (iv 2), kt .eql 3 (sv 38) (sv 40), kt .lss 2 (sv 41) (sv 39), (.bin .add 2 (sv 39) (iv 1), sv 58), kf .eql 32 (sv 28) (iv 1)], [], [([4, 1000001], (eSt 1 (.bool false) 2 [] (p8 2 42))), ([2, 1000001], (eSt 2 (iv 0) 2 (p8 2 42) (p8 2 42 ++ p8 18 50)))]⟩ [(68, [(eC0 [pt 0 0] 2 ([(0, iv (-1))] ++ p8 2 42 ++ p8 18 50 ++ [(39, sv 58)]) 59 3 1 0 1)])] ⟨asNeS u31 rfl, qT (n ≥ 0), qT (n < 8), iA u70 z4 rfl rfl, iA u30 z2 rfl rfl, eT s.x n, eF s.owner n, eF s.wt 1, eT s.wt 2, eT s.su n, qT (op < s.op), asP (u := iv ((s.op) + (1))) (Eq.trans (b := some (iv (IntKind.i64.wrap ((s.op) + (1))))) (by kernel_rfl) (by rw [wrap_id (by omega) (by omega)])) (by kernel_rfl), eF s.hk 1, trivial⟩ trivial ⟨st (st_sh s (lineV 1 s.line) 73 (q := n.toNat) (by omega) false), st (st_ops { s with sh := (upd s.sh n.toNat false) : St } (lineV 1 s.line) 73 (q := n.toNat) (by omega) (0)), trivial⟩ ⟨oe hN, trivial⟩ 2 (lockL []) (lockP ++ [sv 40, sv 41]) [(0, 0), (2, 3)]
                    · exact ab ho
                  · exact ab ho
                · by_cases h17 : ((s.wt) : Int) = (3)
                  · exact ab ho
                  · exact ab ho
          · by_cases h18 : ((s.owner) : Int) = (n)
            · by_cases h19 : ((s.wt) : Int) = (1)
              · by_cases h20 : s.go n.toNat = true
                · exact ab ho
                · exact ab ho
              · by_cases h21 : ((s.wt) : Int) = (2)
                · by_cases h22 : ((s.su) : Int) = (n)
                  · by_cases h23 : ((op) : Int) < (s.op)
                    · by_cases h24 : ((s.hk) : Int) = (1)
                      · exact ab ho
                      · simp only [relS, if_neg h2, if_pos h18] at hN
                        exact pth (dg s ([iv n, iv op] ++ b8 (upd s.sh n.toNat false) ++ n8 (upd s.ops n.toNat (0)) ++ [iv ((s.op) + (1))] ++ tv t) [(lineV 1 s.line), pt 0 (2 + n.toNat), pt 0 (18 + n.toNat), lineV 2 t.line] [encL s.line, encL t.line]) ⟨[kt .neq 31 (ch 0) (.slice none 0 0), kt .geq 3 (sv 40) (iv 0), kt .lss 3 (sv 40) (iv 8), kx 70 0 2 40 1, kx 30 0 18 40 2, kf .eql 3 (sv 0) (sv 40), kt .eql 3 (sv 1) (sv 40), kf .eql 71 (sv 29) (iv 1), kt .eql 71 (sv 29) (iv 2), kt .eql 3 (sv 38) (sv 40), kt .lss 2 (sv 41) (sv 39), (.bin .add 2 (sv 39) (iv 1), sv 58), kf .eql 32 (sv 28) (iv 1)], [], [([4, 1000001], (eSt 1 (.bool false) 2 [] (p8 2 42))), ([2, 1000001], (eSt 2 (iv 0) 2 (p8 2 42) (p8 2 42 ++ p8 18 50)))]⟩ [(68, [(eC0 [pt 0 0] 2 ([(1, iv (-1))] ++ p8 2 42 ++ p8 18 50 ++ [(39, sv 58)]) 59 3 1 0 1)])] ⟨asNeS u31 rfl, qT (n ≥ 0), qT (n < 8), iA u70 z4 rfl rfl, iA u30 z2 rfl rfl, eF s.x n, eT s.owner n, eF s.wt 1, eT s.wt 2, eT s.su n, qT (op < s.op), asP (u := iv ((s.op) + (1))) (Eq.trans (b := some (iv (IntKind.i64.wrap ((s.op) + (1))))) (by kernel_rfl) (by rw [wrap_id (by omega) (by omega)])) (by kernel_rfl), eF s.hk 1, trivial⟩ trivial ⟨st (st_sh s (lineV 1 s.line) 73 (q := n.toNat) (by omega) false), st (st_ops { s with sh := (upd s.sh n.toNat false) : St } (lineV 1 s.line) 73 (q := n.toNat) (by omega) (0)), trivial⟩ ⟨oe hN, trivial⟩ 2 (lockL []) (lockP ++ [sv 40, sv 41]) [(0, 0), (2, 3)]
                    · exact ab ho
                  · exact ab ho
                · by_cases h25 : ((s.wt) : Int) = (3)
                  · exact ab ho
                  · exact ab ho
            · by_cases h26 : ((s.wt) : Int) = (1)
              · by_cases h27 : s.go n.toNat = true
                · exact ab ho
                · exact ab ho
              · by_cases h28 : ((s.wt) : Int) = (2)
                · by_cases h29 : ((s.su) : Int) = (n)
                  · by_cases h30 : ((op) : Int) < (s.op)
                    · by_cases h31 : ((s.hk) : Int) = (1)
                      · exact ab ho
                      · simp only [relS, if_neg h2, if_neg h18] at hN
                        exact pth (dg s ([iv n, iv op] ++ b8 (upd s.sh n.toNat false) ++ n8 (upd s.ops n.toNat (0)) ++ [iv ((s.op) + (1))] ++ tv t) [(lineV 1 s.line), pt 0 (2 + n.toNat), pt 0 (18 + n.toNat), lineV 2 t.line] [encL s.line, encL t.line]) ⟨[kt .neq 31 (ch 0) (.slice none 0 0), kt .geq 3 (sv 40) (iv 0), kt .lss 3 (sv 40) (iv 8), kx 70 0 2 40 1, kx 30 0 18 40 2, kf .eql 3 (sv 0) (sv 40), kf .eql 3 (sv 1) (sv 40), kf .eql 71 (sv 29) (iv 1), kt .eql 71 (sv 29) (iv 2), kt .eql 3 (sv 38) (sv 40), kt .lss 2 (sv 41) (sv 39), (.bin .add 2 (sv 39) (iv 1), sv 58), kf .eql 32 (sv 28) (iv 1)], [], [([4, 1000001], (eSt 1 (.bool false) 2 [] (p8 2 42))), ([2, 1000001], (eSt 2 (iv 0) 2 (p8 2 42) (p8 2 42 ++ p8 18 50)))]⟩ [(68, [(eC0 [pt 0 0] 2 (p8 2 42 ++ p8 18 50 ++ [(39, sv 58)]) 59 3 1 0 1)])] ⟨asNeS u31 rfl, qT (n ≥ 0), qT (n < 8), iA u70 z4 rfl rfl, iA u30 z2 rfl rfl, eF s.x n, eF s.owner n, eF s.wt 1, eT s.wt 2, eT s.su n, qT (op < s.op), asP (u := iv ((s.op) + (1))) (Eq.trans (b := some (iv (IntKind.i64.wrap ((s.op) + (1))))) (by kernel_rfl) (by rw [wrap_id (by omega) (by omega)])) (by kernel_rfl), eF s.hk 1, trivial⟩ trivial ⟨st (st_sh s (lineV 1 s.line) 73 (q := n.toNat) (by omega) false), st (st_ops { s with sh := (upd s.sh n.toNat false) : St } (lineV 1 s.line) 73 (q := n.toNat) (by omega) (0)), trivial⟩ ⟨oe hN, trivial⟩ 2 (lockL []) (lockP ++ [sv 40, sv 41]) [(0, 0), (2, 3)]
                    · exact ab ho
                  · exact ab ho
                · by_cases h32 : ((s.wt) : Int) = (3)
                  · exact ab ho
                  · exact ab ho
        · exact ab ho
      · exact ab ho
  | cons x l =>
    · by_cases h0 : ((n) : Int) ≥ (0)
      · by_cases h1 : ((n) : Int) < (8)
        · by_cases h2 : ((s.x) : Int) = (n)
          · by_cases h3 : ((s.owner) : Int) = (n)
            · by_cases h4 : ((s.wt) : Int) = (1)
              · by_cases h5 : s.go n.toNat = true
                · exact ab ho
                · exact ab ho
              · by_cases h6 : ((s.wt) : Int) = (2)
                · by_cases h7 : ((s.su) : Int) = (n)
                  · by_cases h8 : ((op) : Int) < (s.op)
                    · by_cases h9 : ((s.hk) : Int) = (1)
                      · exact ab ho
                      · simp only [relS, if_pos h2, if_pos h3] at hN
                        exact pth (dg s ([iv n, iv op] ++ b8 (upd s.sh n.toNat false) ++ n8 (upd s.ops n.toNat (0)) ++ [iv ((s.op) + (1))] ++ tv t) [(lineV 1 s.line), pt 0 (2 + n.toNat), pt 0 (18 + n.toNat), lineV 2 t.line, .slice (some ⟨3, 0, none⟩) (x :: l).length cap] [encL s.line, encL t.line, encOrds (x :: l)]) ⟨[kt .neq 31 (ch 0) (.slice none 0 0), kt .geq 3 (sv 40) (iv 0), kt .lss 3 (sv 40) (iv 8), kx 70 0 2 40 1, kx 30 0 18 40 2, kt .eql 3 (sv 0) (sv 40), kt .eql 3 (sv 1) (sv 40), kf .eql 71 (sv 29) (iv 1), kt .eql 71 (sv 29) (iv 2), kt .eql 3 (sv 38) (sv 40), kt .lss 2 (sv 41) (sv 39), (.bin .add 2 (sv 39) (iv 1), sv 58), kf .eql 32 (sv 28) (iv 1)], [], [([4, 1000001], (eSt 1 (.bool false) 2 [] (p8 2 42))), ([2, 1000001], (eSt 2 (iv 0) 2 (p8 2 42) (p8 2 42 ++ p8 18 50)))]⟩ [(68, [(eC1 [pt 0 0] 2 ([(0, iv (-1)), (1, iv (-1))] ++ p8 2 42 ++ p8 18 50 ++ [(39, sv 58)]) 59 3 1 0 1 2 (ch 4))])] ⟨asNeS u31 rfl, qT (n ≥ 0), qT (n < 8), iA u70 z4 rfl rfl, iA u30 z2 rfl rfl, eT s.x n, eT s.owner n, eF s.wt 1, eT s.wt 2, eT s.su n, qT (op < s.op), asP (u := iv ((s.op) + (1))) (Eq.trans (b := some (iv (IntKind.i64.wrap ((s.op) + (1))))) (by kernel_rfl) (by rw [wrap_id (by omega) (by omega)])) (by kernel_rfl), eF s.hk 1, trivial⟩ trivial ⟨st (st_sh s (lineV 1 s.line) 73 (q := n.toNat) (by omega) false), st (st_ops { s with sh := (upd s.sh n.toNat false) : St } (lineV 1 s.line) 73 (q := n.toNat) (by omega) (0)), trivial⟩ ⟨oe hN, trivial⟩ 2 (lockL []) (lockP ++ [sv 40, sv 41]) [(0, 0), (2, 3), (3, 2)]
                    · exact ab ho
                  · exact ab ho
                · by_cases h10 : ((s.wt) : Int) = (3)
                  · exact ab ho
                  · exact ab ho
            · by_cases h11 : ((s.wt) : Int) = (1)
              · by_cases h12 : s.go n.toNat = true
                · exact ab ho
                · exact ab ho
              · by_cases h13 : ((s.wt) : Int) = (2)
                · by_cases h14 : ((s.su) : Int) = (n)
                  · by_cases h15 : ((op) : Int) < (s.op)
                    · by_cases h16 : ((s.hk) : Int) = (1)
                      · exact ab ho
                      · simp only [relS, if_pos h2, if_neg h3] at hN
                        exact pth (dg s ([iv n, iv op] ++ b8 (upd s.sh n.toNat false) ++ n8 (upd s.ops n.toNat (0)) ++ [iv ((s.op) + (1))] ++ tv t) [(lineV 1 s.line), pt 0 (2 + n.toNat), pt 0 (18 + n.toNat), lineV 2 t.line, .slice (some ⟨3, 0, none⟩) (x :: l).length cap] [encL s.line, encL t.line, encOrds (x :: l)]) ⟨[kt .neq 31 (ch 0) (.slice none 0 0), kt .geq 3 (sv 40) (iv 0), kt .lss 3 (sv 40) (iv 8), kx 70 0 2 40 1, kx 30 0 18 40 2, kt .eql 3 (sv 0) (sv 40), kf .eql 3 (sv 1) (sv 40), kf .eql 71 (sv 29) (iv 1), kt .eql 71 (sv 29) (iv 2), kt .eql 3 (sv 38) (sv 40), kt .lss 2 (sv 41) (sv 39), (.bin .add 2 (sv 39) (iv 1), sv 58), kf .eql 32 (sv 28) (iv 1)], [], [([4, 1000001], (eSt 1 (.bool false) 2 [] (p8 2 42))), ([2, 1000001], (eSt 2 (iv 0) 2 (p8 2 42) (p8 2 42 ++ p8 18 50)))]⟩ [(68, [(eC1 [pt 0 0] 2 ([(0, iv (-1))] ++ p8 2 42 ++ p8 18 50 ++ [(39, sv 58)]) 59 3 1 0 1 2 (ch 4))])] ⟨asNeS u31 rfl, qT (n ≥ 0), qT (n < 8), iA u70 z4 rfl rfl, iA u30 z2 rfl rfl, eT s.x n, eF s.owner n, eF s.wt 1, eT s.wt 2, eT s.su n, qT (op < s.op), asP (u := iv ((s.op) + (1))) (Eq.trans (b := some (iv (IntKind.i64.wrap ((s.op) + (1))))) (by kernel_rfl) (by rw [wrap_id (by omega) (by omega)])) (by kernel_rfl), eF s.hk 1, trivial⟩ trivial ⟨st (st_sh s (lineV 1 s.line) 73 (q := n.toNat) (by omega) false), st (st_ops { s with sh := (upd s.sh n.toNat false) : St } (lineV 1 s.line) 73 (q := n.toNat) (by omega) (0)), trivial⟩ ⟨oe hN, trivial⟩ 2 (lockL []) (lockP ++ [sv 40, sv 41]) [(0, 0), (2, 3), (3, 2)]
                    · exact ab ho
                  · exact ab ho
                · by_cases h17 : ((s.wt) : Int) = (3)
                  · exact ab ho
                  · exact ab ho
          · by_cases h18 : ((s.owner) : Int) = (n)
            · by_cases h19 : ((s.wt) : Int) = (1)
              · by_cases h20 : s.go n.toNat = true
                · exact ab ho
                · exact ab ho
              · by_cases h21 : ((s.wt) : Int) = (2)
                · by_cases h22 : ((s.su) : Int) = (n)
                  · by_cases h23 : ((op) : Int) < (s.op)
                    · by_cases h24 : ((s.hk) : Int) = (1)
                      · exact ab ho
                      · simp only [relS, if_neg h2, if_pos h18] at hN
                        exact pth (dg s ([iv n, iv op] ++ b8 (upd s.sh n.toNat false) ++ n8 (upd s.ops n.toNat (0)) ++ [iv ((s.op) + (1))] ++ tv t) [(lineV 1 s.line), pt 0 (2 + n.toNat), pt 0 (18 + n.toNat), lineV 2 t.line, .slice (some ⟨3, 0, none⟩) (x :: l).length cap] [encL s.line, encL t.line, encOrds (x :: l)]) ⟨[kt .neq 31 (ch 0) (.slice none 0 0), kt .geq 3 (sv 40) (iv 0), kt .lss 3 (sv 40) (iv 8), kx 70 0 2 40 1, kx 30 0 18 40 2, kf .eql 3 (sv 0) (sv 40), kt .eql 3 (sv 1) (sv 40), kf .eql 71 (sv 29) (iv 1), kt .eql 71 (sv 29) (iv 2), kt .eql 3 (sv 38) (sv 40), kt .lss 2 (sv 41) (sv 39), (.bin .add 2 (sv 39) (iv 1), sv 58), kf .eql 32 (sv 28) (iv 1)], [], [([4, 1000001], (eSt 1 (.bool false) 2 [] (p8 2 42))), ([2, 1000001], (eSt 2 (iv 0) 2 (p8 2 42) (p8 2 42 ++ p8 18 50)))]⟩ [(68, [(eC1 [pt 0 0] 2 ([(1, iv (-1))] ++ p8 2 42 ++ p8 18 50 ++ [(39, sv 58)]) 59 3 1 0 1 2 (ch 4))])] ⟨asNeS u31 rfl, qT (n ≥ 0), qT (n < 8), iA u70 z4 rfl rfl, iA u30 z2 rfl rfl, eF s.x n, eT s.owner n, eF s.wt 1, eT s.wt 2, eT s.su n, qT (op < s.op), asP (u := iv ((s.op) + (1))) (Eq.trans (b := some (iv (IntKind.i64.wrap ((s.op) + (1))))) (by kernel_rfl) (by rw [wrap_id (by omega) (by omega)])) (by kernel_rfl), eF s.hk 1, trivial⟩ trivial ⟨st (st_sh s (lineV 1 s.line) 73 (q := n.toNat) (by omega) false), st (st_ops { s with sh := (upd s.sh n.toNat false) : St } (lineV 1 s.line) 73 (q := n.toNat) (by omega) (0)), trivial⟩ ⟨oe hN, trivial⟩ 2 (lockL []) (lockP ++ [sv 40, sv 41]) [(0, 0), (2, 3), (3, 2)]
                    · exact ab ho
                  · exact ab ho
                · by_cases h25 : ((s.wt) : Int) = (3)
                  · exact ab ho
                  · exact ab ho
            · by_cases h26 : ((s.wt) : Int) = (1)
              · by_cases h27 : s.go n.toNat = true
                · exact ab ho
                · exact ab ho
              · by_cases h28 : ((s.wt) : Int) = (2)
                · by_cases h29 : ((s.su) : Int) = (n)
                  · by_cases h30 : ((op) : Int) < (s.op)
                    · by_cases h31 : ((s.hk) : Int) = (1)
                      · exact ab ho
                      · simp only [relS, if_neg h2, if_neg h18] at hN
                        exact pth (dg s ([iv n, iv op] ++ b8 (upd s.sh n.toNat false) ++ n8 (upd s.ops n.toNat (0)) ++ [iv ((s.op) + (1))] ++ tv t) [(lineV 1 s.line), pt 0 (2 + n.toNat), pt 0 (18 + n.toNat), lineV 2 t.line, .slice (some ⟨3, 0, none⟩) (x :: l).length cap] [encL s.line, encL t.line, encOrds (x :: l)]) ⟨[kt .neq 31 (ch 0) (.slice none 0 0), kt .geq 3 (sv 40) (iv 0), kt .lss 3 (sv 40) (iv 8), kx 70 0 2 40 1, kx 30 0 18 40 2, kf .eql 3 (sv 0) (sv 40), kf .eql 3 (sv 1) (sv 40), kf .eql 71 (sv 29) (iv 1), kt .eql 71 (sv 29) (iv 2), kt .eql 3 (sv 38) (sv 40), kt .lss 2 (sv 41) (sv 39), (.bin .add 2 (sv 39) (iv 1), sv 58), kf .eql 32 (sv 28) (iv 1)], [], [([4, 1000001], (eSt 1 (.bool false) 2 [] (p8 2 42))), ([2, 1000001], (eSt 2 (iv 0) 2 (p8 2 42) (p8 2 42 ++ p8 18 50)))]⟩ [(68, [(eC1 [pt 0 0] 2 (p8 2 42 ++ p8 18 50 ++ [(39, sv 58)]) 59 3 1 0 1 2 (ch 4))])] ⟨asNeS u31 rfl, qT (n ≥ 0), qT (n < 8), iA u70 z4 rfl rfl, iA u30 z2 rfl rfl, eF s.x n, eF s.owner n, eF s.wt 1, eT s.wt 2, eT s.su n, qT (op < s.op), asP (u := iv ((s.op) + (1))) (Eq.trans (b := some (iv (IntKind.i64.wrap ((s.op) + (1))))) (by kernel_rfl) (by rw [wrap_id (by omega) (by omega)])) (by kernel_rfl), eF s.hk 1, trivial⟩ trivial ⟨st (st_sh s (lineV 1 s.line) 73 (q := n.toNat) (by omega) false), st (st_ops { s with sh := (upd s.sh n.toNat false) : St } (lineV 1 s.line) 73 (q := n.toNat) (by omega) (0)), trivial⟩ ⟨oe hN, trivial⟩ 2 (lockL []) (lockP ++ [sv 40, sv 41]) [(0, 0), (2, 3), (3, 2)]
                    · exact ab ho
                  · exact ab ho
                · by_cases h32 : ((s.wt) : Int) = (3)
                  · exact ab ho
                  · exact ab ho
        · exact ab ho
      · exact ab ho
theorem rel_need {s t : St} {n op : Int} {o : List Ord} (_hop : 0 ≤ s.op ∧ s.op < 4611686018427387904) (ho : (0 ≤ n ∧ n < 8) ∧ s.wt = 3 ∧ s.owner = n) (h : MC 69 [] (relS s n) t o) : MC 26 [.int .i64 n, .int .i64 op] s t o := by
  obtain ⟨cap, hcap, hN⟩ := h
  refine MC.mk (cap := cap) ?_
  cases o with
  | nil =>
    · by_cases h0 : ((n) : Int) ≥ (0)
      · by_cases h1 : ((n) : Int) < (8)
        · by_cases h2 : ((s.x) : Int) = (n)
          · by_cases h3 : ((s.owner) : Int) = (n)
            · by_cases h4 : ((s.wt) : Int) = (1)
              · by_cases h5 : s.go n.toNat = true
                · exact ab ho
                · exact ab ho
              · by_cases h6 : ((s.wt) : Int) = (2)
                · by_cases h7 : ((s.su) : Int) = (n)
                  · by_cases h8 : ((op) : Int) < (s.op)
                    · by_cases h9 : ((s.hk) : Int) = (1)
                      · exact ab ho
                      · exact ab ho
                    · exact ab ho
                  · exact ab ho
                · by_cases h10 : ((s.wt) : Int) = (3)
                  · simp only [relS, if_pos h2, if_pos h3] at hN
                    exact pth (dg s ([iv n, iv op] ++ b8 (upd s.sh n.toNat false) ++ n8 (upd s.ops n.toNat (0)) ++ tv t) [(lineV 1 s.line), pt 0 (2 + n.toNat), pt 0 (18 + n.toNat), lineV 2 t.line] [encL s.line, encL t.line]) ⟨[kt .neq 31 (ch 0) (.slice none 0 0), kt .geq 3 (sv 40) (iv 0), kt .lss 3 (sv 40) (iv 8), kx 70 0 2 40 1, kx 30 0 18 40 2, kt .eql 3 (sv 0) (sv 40), kt .eql 3 (sv 1) (sv 40), kf .eql 71 (sv 29) (iv 1), kf .eql 71 (sv 29) (iv 2), kt .eql 71 (sv 29) (iv 3)], [], [([4, 1000001], (eSt 1 (.bool false) 2 [] (p8 2 42))), ([2, 1000001], (eSt 2 (iv 0) 2 (p8 2 42) (p8 2 42 ++ p8 18 50)))]⟩ [(69, [(eC0 [pt 0 0] 2 ([(0, iv (-1)), (1, iv (-1))] ++ p8 2 42 ++ p8 18 50) 58 3 1 0 1)])] ⟨asNeS u31 rfl, qT (n ≥ 0), qT (n < 8), iA u70 z4 rfl rfl, iA u30 z2 rfl rfl, eT s.x n, eT s.owner n, eF s.wt 1, eF s.wt 2, eT s.wt 3, trivial⟩ trivial ⟨st (st_sh s (lineV 1 s.line) 73 (q := n.toNat) (by omega) false), st (st_ops { s with sh := (upd s.sh n.toNat false) : St } (lineV 1 s.line) 73 (q := n.toNat) (by omega) (0)), trivial⟩ ⟨oe hN, trivial⟩ 2 (lockL []) (lockP ++ [sv 40, sv 41]) [(0, 0), (2, 3)]
                  · exact ab ho
            · by_cases h11 : ((s.wt) : Int) = (1)
              · by_cases h12 : s.go n.toNat = true
                · exact ab ho
                · exact ab ho
              · by_cases h13 : ((s.wt) : Int) = (2)
                · by_cases h14 : ((s.su) : Int) = (n)
                  · by_cases h15 : ((op) : Int) < (s.op)
                    · by_cases h16 : ((s.hk) : Int) = (1)
                      · exact ab ho
                      · exact ab ho
                    · exact ab ho
                  · exact ab ho
                · by_cases h17 : ((s.wt) : Int) = (3)
                  · exact ab ho
                  · exact ab ho
          · by_cases h18 : ((s.owner) : Int) = (n)
            · by_cases h19 : ((s.wt) : Int) = (1)
              · by_cases h20 : s.go n.toNat = true
                · exact ab ho
                · exact ab ho
              · by_cases h21 : ((s.wt) : Int) = (2)
                · by_cases h22 : ((s.su) : Int) = (n)
                  · by_cases h23 : ((op) : Int) < (s.op)
                    · by_cases h24 : ((s.hk) : Int) = (1)
                      · exact ab ho
                      · exact ab ho
                    · exact ab ho
                  · exact ab ho
                · by_cases h25 : ((s.wt) : Int) = (3)
                  · simp only [relS, if_neg h2, if_pos h18] at hN
                    exact pth (dg s ([iv n, iv op] ++ b8 (upd s.sh n.toNat false) ++ n8 (upd s.ops n.toNat (0)) ++ tv t) [(lineV 1 s.line), pt 0 (2 + n.toNat), pt 0 (18 + n.toNat), lineV 2 t.line] [encL s.line, encL t.line]) ⟨[kt .neq 31 (ch 0) (.slice none 0 0), kt .geq 3 (sv 40) (iv 0), kt .lss 3 (sv 40) (iv 8), kx 70 0 2 40 1, kx 30 0 18 40 2, kf .eql 3 (sv 0) (sv 40), kt .eql 3 (sv 1) (sv 40), kf .eql 71 (sv 29) (iv 1), kf .eql 71 (sv 29) (iv 2), kt .eql 71 (sv 29) (iv 3)], [], [([4, 1000001], (eSt 1 (.bool false) 2 [] (p8 2 42))), ([2, 1000001], (eSt 2 (iv 0) 2 (p8 2 42) (p8 2 42 ++ p8 18 50)))]⟩ [(69, [(eC0 [pt 0 0] 2 ([(1, iv (-1))] ++ p8 2 42 ++ p8 18 50) 58 3 1 0 1)])] ⟨asNeS u31 rfl, qT (n ≥ 0), qT (n < 8), iA u70 z4 rfl rfl, iA u30 z2 rfl rfl, eF s.x n, eT s.owner n, eF s.wt 1, eF s.wt 2, eT s.wt 3, trivial⟩ trivial ⟨st (st_sh s (lineV 1 s.line) 73 (q := n.toNat) (by omega) false), st (st_ops { s with sh := (upd s.sh n.toNat false) : St } (lineV 1 s.line) 73 (q := n.toNat) (by omega) (0)), trivial⟩ ⟨oe hN, trivial⟩ 2 (lockL []) (lockP ++ [sv 40, sv 41]) [(0, 0), (2, 3)]
                  · exact ab ho
            · by_cases h26 : ((s.wt) : Int) = (1)
              · by_cases h27 : s.go n.toNat = true
                · exact ab ho
                · exact ab ho
              · by_cases h28 : ((s.wt) : Int) = (2)
                · by_cases h29 : ((s.su) : Int) = (n)
                  · by_cases h30 : ((op) : Int) < (s.op)
                    · by_cases h31 : ((s.hk) : Int) = (1)
                      · exact ab ho
                      · exact ab ho
                    · exact ab ho
                  · exact ab ho
                · by_cases h32 : ((s.wt) : Int) = (3)
                  · exact ab ho
                  · exact ab ho
        · exact ab ho
      · exact ab ho
  | cons x l =>
    · by_cases h0 : ((n) : Int) ≥ (0)
      · by_cases h1 : ((n) : Int) < (8)
        · by_cases h2 : ((s.x) : Int) = (n)
          · by_cases h3 : ((s.owner) : Int) = (n)
            · by_cases h4 : ((s.wt) : Int) = (1)
              · by_cases h5 : s.go n.toNat = true
                · exact ab ho
                · exact ab ho
              · by_cases h6 : ((s.wt) : Int) = (2)
                · by_cases h7 : ((s.su) : Int) = (n)
                  · by_cases h8 : ((op) : Int) < (s.op)
                    · by_cases h9 : ((s.hk) : Int) = (1)
                      · exact ab ho
                      · exact ab ho
                    · exact ab ho
                  · exact ab ho
                · by_cases h10 : ((s.wt) : Int) = (3)
                  · simp only [relS, if_pos h2, if_pos h3] at hN
                    exact pth (dg s ([iv n, iv op] ++ b8 (upd s.sh n.toNat false) ++ n8 (upd s.ops n.toNat (0)) ++ tv t) [(lineV 1 s.line), pt 0 (2 + n.toNat), pt 0 (18 + n.toNat), lineV 2 t.line, .slice (some ⟨3, 0, none⟩) (x :: l).length cap] [encL s.line, encL t.line, encOrds (x :: l)]) ⟨[kt .neq 31 (ch 0) (.slice none 0 0), kt .geq 3 (sv 40) (iv 0), kt .lss 3 (sv 40) (iv 8), kx 70 0 2 40 1, kx 30 0 18 40 2, kt .eql 3 (sv 0) (sv 40), kt .eql 3 (sv 1) (sv 40), kf .eql 71 (sv 29) (iv 1), kf .eql 71 (sv 29) (iv 2), kt .eql 71 (sv 29) (iv 3)], [], [([4, 1000001], (eSt 1 (.bool false) 2 [] (p8 2 42))), ([2, 1000001], (eSt 2 (iv 0) 2 (p8 2 42) (p8 2 42 ++ p8 18 50)))]⟩ [(69, [(eC1 [pt 0 0] 2 ([(0, iv (-1)), (1, iv (-1))] ++ p8 2 42 ++ p8 18 50) 58 3 1 0 1 2 (ch 4))])] ⟨asNeS u31 rfl, qT (n ≥ 0), qT (n < 8), iA u70 z4 rfl rfl, iA u30 z2 rfl rfl, eT s.x n, eT s.owner n, eF s.wt 1, eF s.wt 2, eT s.wt 3, trivial⟩ trivial ⟨st (st_sh s (lineV 1 s.line) 73 (q := n.toNat) (by omega) false), st (st_ops { s with sh := (upd s.sh n.toNat false) : St } (lineV 1 s.line) 73 (q := n.toNat) (by omega) (0)), trivial⟩ ⟨oe hN, trivial⟩ 2 (lockL []) (lockP ++ [sv 40, sv 41]) [(0, 0), (2, 3), (3, 2)]
                  · exact ab ho
            · by_cases h11 : ((s.wt) : Int) = (1)
              · by_cases h12 : s.go n.toNat = true
                · exact ab ho
                · exact ab ho
              · by_cases h13 : ((s.wt) : Int) = (2)
                · by_cases h14 : ((s.su) : Int) = (n)
                  · by_cases h15 : ((op) : Int) < (s.op)
                    · by_cases h16 : ((s.hk) : Int) = (1)
                      · exact ab ho
                      · exact ab ho
                    · exact ab ho
                  · exact ab ho
                · by_cases h17 : ((s.wt) : Int) = (3)
                  · exact ab ho
                  · exact ab ho
          · by_cases h18 : ((s.owner) : Int) = (n)
            · by_cases h19 : ((s.wt) : Int) = (1)
              · by_cases h20 : s.go n.toNat = true
                · exact ab ho
                · exact ab ho
              · by_cases h21 : ((s.wt) : Int) = (2)
                · by_cases h22 : ((s.su) : Int) = (n)
                  · by_cases h23 : ((op) : Int) < (s.op)
                    · by_cases h24 : ((s.hk) : Int) = (1)
                      · exact ab ho
                      · exact ab ho
                    · exact ab ho
                  · exact ab ho
                · by_cases h25 : ((s.wt) : Int) = (3)
                  · simp only [relS, if_neg h2, if_pos h18] at hN
                    exact pth (dg s ([iv n, iv op] ++ b8 (upd s.sh n.toNat false) ++ n8 (upd s.ops n.toNat (0)) ++ tv t) [(lineV 1 s.line), pt 0 (2 + n.toNat), pt 0 (18 + n.toNat), lineV 2 t.line, .slice (some ⟨3, 0, none⟩) (x :: l).length cap] [encL s.line, encL t.line, encOrds (x :: l)]) ⟨[kt .neq 31 (ch 0) (.slice none 0 0), kt .geq 3 (sv 40) (iv 0), kt .lss 3 (sv 40) (iv 8), kx 70 0 2 40 1, kx 30 0 18 40 2, kf .eql 3 (sv 0) (sv 40), kt .eql 3 (sv 1) (sv 40), kf .eql 71 (sv 29) (iv 1), kf .eql 71 (sv 29) (iv 2), kt .eql 71 (sv 29) (iv 3)], [], [([4, 1000001], (eSt 1 (.bool false) 2 [] (p8 2 42))), ([2, 1000001], (eSt 2 (iv 0) 2 (p8 2 42) (p8 2 42 ++ p8 18 50)))]⟩ [(69, [(eC1 [pt 0 0] 2 ([(1, iv (-1))] ++ p8 2 42 ++ p8 18 50) 58 3 1 0 1 2 (ch 4))])] ⟨asNeS u31 rfl, qT (n ≥ 0), qT (n < 8), iA u70 z4 rfl rfl, iA u30 z2 rfl rfl, eF s.x n, eT s.owner n, eF s.wt 1, eF s.wt 2, eT s.wt 3, trivial⟩ trivial ⟨st (st_sh s (lineV 1 s.line) 73 (q := n.toNat) (by omega) false), st (st_ops { s with sh := (upd s.sh n.toNat false) : St } (lineV 1 s.line) 73 (q := n.toNat) (by omega) (0)), trivial⟩ ⟨oe hN, trivial⟩ 2 (lockL []) (lockP ++ [sv 40, sv 41]) [(0, 0), (2, 3), (3, 2)]
                  · exact ab ho
            · by_cases h26 : ((s.wt) : Int) = (1)
              · by_cases h27 : s.go n.toNat = true
                · exact ab ho
                · exact ab ho
              · by_cases h28 : ((s.wt) : Int) = (2)
                · by_cases h29 : ((s.su) : Int) = (n)
                  · by_cases h30 : ((op) : Int) < (s.op)
                    · by_cases h31 : ((s.hk) : Int) = (1)
                      · exact ab ho
                      · exact ab ho
                    · exact ab ho
                  · exact ab ho
                · by_cases h32 : ((s.wt) : Int) = (3)
                  · exact ab ho
                  · exact ab ho
        · exact ab ho
      · exact ab ho
end Go.Proofs.Ytjpgnjaobfbojaa

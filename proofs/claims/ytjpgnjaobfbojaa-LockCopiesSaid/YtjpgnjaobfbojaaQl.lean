import Derived.Test.YtjpgnjaobfbojaaQk
namespace Go.Proofs.Ytjpgnjaobfbojaa
open Go.Sx
set_option maxRecDepth 20000
def eApW (a c : Nat) (lo : AObj) (j' k' : Nat) : Entry := { args := [.chan (some 0), .slice (some ⟨a, 0, none⟩) 1 1], c := c, foots := [⟨1, 0, false, lo, .dead⟩, ⟨a, 1, true, .row 34 (.lst [sv 40, sv 41]) false, .row 34 (.lst [sv 40, sv 41]) false⟩], news := [(2, .mrow 34 j' false)], res := .chan (some k') }
theorem wishR_lo {s : St} {n k : Int} (ho : n < 0) : RC 55 [.agg #[.int .i64 n, .int .i64 k]] s s [] := by
  refine RC.mkN ?_
  · skip
    exact pth (dr s [iv n, iv k] [olv 1 s.line] [encL s.line]) ⟨[kf .geq 3 (sv 40) (iv 0)], [], []⟩ [] ⟨qF (n ≥ 0), trivial⟩ trivial trivial trivial 2 (rlockL []) (lockP ++ [.agg #[sv 40, sv 41]]) [(0, 0), (1, 3)]
theorem wishR_hi {s : St} {n k : Int} (h0 : 0 ≤ n) (ho : 8 ≤ n) : RC 55 [.agg #[.int .i64 n, .int .i64 k]] s s [] := by
  refine RC.mkN ?_
  · skip
    exact pth (dr s [iv n, iv k] [olv 1 s.line] [encL s.line]) ⟨[kt .geq 3 (sv 40) (iv 0), kf .lss 3 (sv 40) (iv 8)], [], []⟩ [] ⟨qT (n ≥ 0), qF (n < 8), trivial⟩ trivial trivial trivial 2 (rlockL []) (lockP ++ [.agg #[sv 40, sv 41]]) [(0, 0), (1, 3)]
theorem wishR_hand {s : St} {n k : Int} (hn : 0 ≤ n ∧ n < 8) (hw : s.wt ≠ 0) (hs : s.hn = n ∧ s.hk = k) : RC 55 [.agg #[.int .i64 n, .int .i64 k]] s s [] := by
  refine RC.mkN ?_
  · skip
    exact pth (dr s [iv n, iv k] [olv 1 s.line] [encL s.line]) ⟨[kt .geq 3 (sv 40) (iv 0), kt .lss 3 (sv 40) (iv 8), kt .neq 3 (sv 29) (iv 0), kt .eql 34 (.agg #[sv 27, sv 28]) (.agg #[sv 40, sv 41])], [], []⟩ [] ⟨qT (n ≥ 0), qT (n < 8), nT s.wt 0, asEqA (c := true) (Eq.trans (b := some ((s.hn == n) && ((s.hk == k) && true))) (by kernel_rfl) (by rw [hs.1, hs.2]; simp)) rfl, trivial⟩ trivial trivial trivial 2 (rlockL []) (lockP ++ [.agg #[sv 40, sv 41]]) [(0, 0), (1, 3)]
theorem wishR_begin {s t : St} {n k : Int} {o : List Ord} (hn : 0 ≤ n ∧ n < 8) (hw : s.wt = 0) (h : RC 89 [] { s with line := [(n, k)] } t o) : RC 55 [.agg #[.int .i64 n, .int .i64 k]] { s with line := [] } t o := by
  obtain ⟨cap, hcap, hN⟩ := h
  refine RC.mk (cap := cap) ?_
  · skip
    exact pth (dr s ([iv n, iv k] ++ tv t) [olv 1 [], olv 4 ([] ++ [(n, k)]), olv 5 t.line, oord 6 cap o] [encL [], encL ([] ++ [(n, k)]), encL t.line, encOrds o]) ⟨[kt .geq 3 (sv 40) (iv 0), kt .lss 3 (sv 40) (iv 8), kf .neq 3 (sv 29) (iv 0), (.len 31 (ch 0), iv 0)], [], [([31, 31], eApW 3 4 (.mrow 34 0 false) 1 1)]⟩ [(89, [eCR [pt 0 0] 5 [(26, ch 1)] 42 2 4 1 2 3 (ch 3)])] ⟨qT (n ≥ 0), qT (n < 8), nF s.wt 0, asLen u31 rfl (by kernel_rfl), trivial⟩ trivial ⟨ap (app_lR [] (n, k) 1 (by simp)), trivial⟩ ⟨oe (toD hN), trivial⟩ 2 (rlockL []) (lockP ++ [.agg #[sv 40, sv 41]]) [(0, 0), (5, 3), (6, 2)]
theorem wishR_first {s : St} {n k : Int} (hn : 0 ≤ n ∧ n < 8) (hw : s.wt ≠ 0) (hs : ¬ (s.hn = n ∧ s.hk = k)) : RC 55 [.agg #[.int .i64 n, .int .i64 k]] { s with line := [] } { s with line := [(n, k)] } [] := by
  refine RC.mkN ?_
  · skip
    exact pth (dr s [iv n, iv k] [olv 1 [], olv 4 ([] ++ [(n, k)])] [encL [], encL ([] ++ [(n, k)])]) ⟨[kt .geq 3 (sv 40) (iv 0), kt .lss 3 (sv 40) (iv 8), kt .neq 3 (sv 29) (iv 0), kf .eql 34 (.agg #[sv 27, sv 28]) (.agg #[sv 40, sv 41]), (.len 31 (ch 0), iv 0)], [], [([31, 31], eApW 3 4 (.mrow 34 0 false) 1 1)]⟩ [] ⟨qT (n ≥ 0), qT (n < 8), nT s.wt 0, asEqA (c := false) (Eq.trans (b := some ((s.hn == n) && ((s.hk == k) && true))) (by kernel_rfl) (congrArg some (and2_false hs))) rfl, asLen u31 rfl (by kernel_rfl), trivial⟩ trivial ⟨ap (app_lR [] (n, k) 1 (by simp)), trivial⟩ trivial 2 (rlockL []) (lockP ++ [.agg #[sv 40, sv 41]]) [(0, 0), (4, 3)]
noncomputable abbrev dW (s : St) (n k : Int) (x : Int × Int) (l : List (Int × Int)) (i : Nat) : Den := dr s [.int .i64 n, .int .i64 k, .int .i64 (i : Nat)] [.v (lvS (x :: l).length INF)] [encL (x :: l)]
noncomputable def kW : List KI := ((ksteps (@rec ⟨[], [], []⟩ Try.prog noTbl 100) 11 (startC Try.prog 55 [.pointer (some ⟨0, 0, none⟩), .agg #[.int .i64 0, .int .i64 1]] 2 (hl0 0))).map (·.k)).getD []
noncomputable def xW : Cfg := headC kW .normal [(0, .pointer (some ⟨0, 0, none⟩)), (3, .pointer (some ⟨2, 0, none⟩)), (4, .slice none 0 0), (5, sv 42)] 60 3 [(0, .row 52 (.lst (syms [])) false), (1, .orow 34 0 false), (2, .row 34 (.lst [sv 40, sv 41]) false)]
section
variable {s s0 : St} {n k : Int} {x : Int × Int} {l : List (Int × Int)}
theorem wishHit {i : Nat} {w : Int × Int} (_hl2 : (x :: l).length < 1000000) (hi : i < (x :: l).length) (hget : (x :: l)[i]? = some w) (hw : ((w.1 == n) && ((w.2 == k) && true)) = true) : GoodS (dW s n k x l i) Try.prog 55 (rlock 1 s0) (.slice none 0 0) (rlockBN { s with line := x :: l }) [0] xW := by
  · exact gF (dr s [iv n, iv k, iv (i : Nat), iv ((x :: l).length : Nat), iv w.1, iv w.2] [.v (lvS (x :: l).length INF), .v (pt 1 (i * 2))] [encL (x :: l)]) ⟨[(.len 31 (ch 0), sv 43), kt .lss 3 (sv 42) (sv 43), (.ixa 31 (ch 0) (sv 42), ch 1), kt .eql 34 (.agg #[sv 44, sv 45]) (.agg #[sv 40, sv 41])], [⟨34, 1, 1, 0, .agg #[sv 44, sv 45]⟩], []⟩ [] ⟨asLen u31 rfl (by kernel_rfl), qT ((i : Int) < (((x :: l).length : Nat) : Int)), asIxa u31 z34 rfl rfl (by omega) (by omega) rfl (by simp), asEqA (c := true) (Eq.trans (b := some ((w.1 == n) && ((w.2 == k) && true))) (by kernel_rfl) (congrArg some hw)) rfl, trivial⟩ ⟨ld_agg a34 z34 rfl (show i * 2 + 2 ≤ (encL (x :: l)).length by rw [encL_len]; omega) (encL_at (x :: l) i w hget) rfl (by kernel_rfl), trivial⟩ trivial trivial 14 [(0, 0), (1, 3)]
theorem wishMiss {i : Nat} {w : Int × Int} {B : HL} (hl2 : (x :: l).length < 1000000) (hi : i < (x :: l).length) (hget : (x :: l)[i]? = some w) (hw : ((w.1 == n) && ((w.2 == k) && true)) = false) (h : GoodS (dW s n k x l (i + 1)) Try.prog 55 (rlock 1 s0) (.slice none 0 0) B [0] xW) : GoodS (dW s n k x l i) Try.prog 55 (rlock 1 s0) (.slice none 0 0) B [0] xW := by
  · exact gS (dr s [iv n, iv k, iv (i : Nat), iv ((x :: l).length : Nat), iv w.1, iv w.2, iv ((i + 1 : Nat) : Int)] [.v (lvS (x :: l).length INF), .v (pt 1 (i * 2))] [encL (x :: l)]) _ ⟨[(.len 31 (ch 0), sv 43), kt .lss 3 (sv 42) (sv 43), (.ixa 31 (ch 0) (sv 42), ch 1), kf .eql 34 (.agg #[sv 44, sv 45]) (.agg #[sv 40, sv 41]), (.bin .add 3 (sv 42) (iv 1), sv 46)], [⟨34, 1, 1, 0, .agg #[sv 44, sv 45]⟩], []⟩ [] ⟨asLen u31 rfl (by kernel_rfl), qT ((i : Int) < (((x :: l).length : Nat) : Int)), asIxa u31 z34 rfl rfl (by omega) (by omega) rfl (by simp), asEqA (c := false) (Eq.trans (b := some ((w.1 == n) && ((w.2 == k) && true))) (by kernel_rfl) (congrArg some hw)) rfl, asP (u := iv ((i + 1 : Nat) : Int)) (Eq.trans (b := some (iv (IntKind.i64.wrap ((i : Int) + 1)))) (by kernel_rfl) (by rw [wrap_id (by omega) (by omega)]; rfl)) (by kernel_rfl), trivial⟩ ⟨ld_agg a34 z34 rfl (show i * 2 + 2 ≤ (encL (x :: l)).length by rw [encL_len]; omega) (encL_at (x :: l) i w hget) rfl (by kernel_rfl), trivial⟩ trivial trivial 12 [(0, 0), (1, 1), (2, 2)] h
theorem wishEnd (hl2 : (x :: l).length < 1000000) (hw0 : s.wt ≠ 0) : GoodS (dW s n k x l (x :: l).length) Try.prog 55 (rlock 1 s0) (.slice none 0 0) (rlockBN { s with line := (x :: l) ++ [(n, k)] }) [0] xW := by
  · exact gF (dr s [iv n, iv k, iv ((x :: l).length : Nat), iv ((x :: l).length : Nat)] [.v (lvS (x :: l).length INF), olv 4 ((x :: l) ++ [(n, k)])] [encL (x :: l), encL ((x :: l) ++ [(n, k)])]) ⟨[(.len 31 (ch 0), sv 43), kf .lss 3 (sv 42) (sv 43), kt .neq 3 (sv 29) (iv 0)], [], [([31, 31], eApW 3 4 (.orow 34 0 false) 1 1)]⟩ [] ⟨asLen u31 rfl (by kernel_rfl), qF ((((x :: l).length : Nat) : Int) < (((x :: l).length : Nat) : Int)), nT s.wt 0, trivial⟩ trivial ⟨ap (app_lR (x :: l) (n, k) 1 hl2), trivial⟩ trivial 14 [(0, 0), (4, 3)]
end
theorem wishAll {s s0 : St} {n k : Int} {x : Int × Int} {l : List (Int × Int)} (hl2 : (x :: l).length < 1000000) (hw0 : s.wt ≠ 0) : ∀ (m i : Nat), i + m = (x :: l).length → GoodS (dW s n k x l i) Try.prog 55 (rlock 1 s0) (.slice none 0 0) (rlockBN { s with line := if (n, k) ∈ (x :: l).drop i then x :: l else (x :: l) ++ [(n, k)] }) [0] xW := by
  intro m
  induction m with
  | zero =>
    intro i hi
    have : i = (x :: l).length := by omega
    subst this
    rw [List.drop_length, if_neg (by simp)]
    exact wishEnd hl2 hw0
  | succ m ih =>
    intro i hi
    have hlt : i < (x :: l).length := by omega
    have hget : (x :: l)[i]? = some (x :: l)[i] := by simp []
    rw [List.drop_eq_getElem_cons hlt]
    by_cases hw : (x :: l)[i] = (n, k)
    · rw [if_pos (by rw [hw]; exact List.mem_cons_self)]
      exact wishHit hl2 hlt hget (by rw [hw]; simp)
    · have h := ih (i + 1) (by omega)
      have e : ((n, k) ∈ (x :: l)[i] :: (x :: l).drop (i + 1)) ↔ (n, k) ∈ (x :: l).drop (i + 1) := by
        rw [List.mem_cons]
        exact ⟨fun h => h.resolve_left fun e => hw e.symm, .inr⟩
      simp only [e]
      exact wishMiss hl2 hlt hget (and2_false fun ⟨h1, h2⟩ => hw (Prod.ext h1 h2)) h
theorem wishR_line {s : St} {n k : Int} {x : Int × Int} {l : List (Int × Int)} (hn : 0 ≤ n ∧ n < 8) (hl2 : (x :: l).length < 1000000) (hw : s.wt ≠ 0) (hs : ¬ (s.hn = n ∧ s.hk = k)) : RC 55 [.agg #[.int .i64 n, .int .i64 k]] { s with line := x :: l } { s with line := if (n, k) ∈ x :: l then x :: l else (x :: l) ++ [(n, k)] } [] := by
  refine RC.mkN ?_
  have hL := wishAll (s := s) (s0 := { s with line := x :: l }) (n := n) (k := k) hl2 hw (x :: l).length 0 (Nat.zero_add _)
  rw [List.drop_zero] at hL
  · refine Ctr.of_goodS (d := (dr s [iv n, iv k] [.v (lvS (x :: l).length INF)] [encL (x :: l)])) [0] (c0 := 2) (A0 := rlockLo []) (args0 := lockP ++ [.agg #[sv 40, sv 41]]) (by kernel_rfl) (by kernel_rfl) (by kernel_rfl) ?_
    exact @goodS_seg (dr s [iv n, iv k] [.v (lvS (x :: l).length INF)] [encL (x :: l)]) (dW s n k x l 0) Try.prog mixed ⟨[kt .geq 3 (sv 40) (iv 0), kt .lss 3 (sv 40) (iv 8), kt .neq 3 (sv 29) (iv 0), kf .eql 34 (.agg #[sv 27, sv 28]) (.agg #[sv 40, sv 41])], [], []⟩ [] ⟨qT (n ≥ 0), qT (n < 8), nT s.wt 0, asEqA (c := false) (Eq.trans (b := some ((s.hn == n) && ((s.hk == k) && true))) (by kernel_rfl) (congrArg some (and2_false hs))) rfl, trivial⟩ trivial trivial trivial 100 11 55 _ _ _ _ _ [(0, 0), (1, 1), (2, 2)] [] _ _ _ _ _ _ (by kernel_rfl) (by kernel_rfl) (by kernel_rfl) hL
theorem wantR_1 {s t : St} {n : Int} {o : List Ord} (h : RC 55 [.agg #[.int .i64 n, .int .i64 1]] s t o) : RC 54 [.int .i64 n, .int .i64 1] s t o := by
  obtain ⟨cap, hcap, hN⟩ := h
  refine RC.mk (cap := cap) ?_
  · skip
    exact pth (dr s ([iv n] ++ tv t) [olv 1 s.line, olv 2 t.line, oord 3 cap o] [encL s.line, encL t.line, encOrds o]) ⟨[], [], []⟩ [(55, [eCR [pt 0 0, .agg #[sv 40, iv 1]] 2 [] 41 1 1 0 1 2 (ch 2)])] trivial trivial trivial ⟨oe (toD hN), trivial⟩ 2 (rlockL []) (lockP ++ [sv 40, iv 1]) [(0, 0), (2, 3), (3, 2)]
theorem wantR_2 {s t : St} {n : Int} {o : List Ord} (h : RC 55 [.agg #[.int .i64 n, .int .i64 2]] s t o) : RC 54 [.int .i64 n, .int .i64 2] s t o := by
  obtain ⟨cap, hcap, hN⟩ := h
  refine RC.mk (cap := cap) ?_
  · skip
    exact pth (dr s ([iv n] ++ tv t) [olv 1 s.line, olv 2 t.line, oord 3 cap o] [encL s.line, encL t.line, encOrds o]) ⟨[], [], []⟩ [(55, [eCR [pt 0 0, .agg #[sv 40, iv 2]] 2 [] 41 1 1 0 1 2 (ch 2)])] trivial trivial trivial ⟨oe (toD hN), trivial⟩ 2 (rlockL []) (lockP ++ [sv 40, iv 2]) [(0, 0), (2, 3), (3, 2)]
theorem wantR_out {s : St} {n m : Int} (ho : ¬ (m = 1 ∨ m = 2)) : RC 54 [.int .i64 n, .int .i64 m] s s [] := by
  refine RC.mkN ?_
  · by_cases h0 : ((m) : Int) = (1)
    · exact ab ho
    · by_cases h1 : ((m) : Int) = (2)
      · exact ab ho
      · skip
        exact pth (dr s [iv n, iv m] [olv 1 s.line] [encL s.line]) ⟨[kf .eql 40 (sv 41) (iv 1), kf .eql 40 (sv 41) (iv 2)], [], []⟩ [] ⟨eF m 1, eF m 2, trivial⟩ trivial trivial trivial 2 (rlockL []) (lockP ++ [sv 40, sv 41]) [(0, 0), (1, 3)]
theorem awayR_more {s : St} {n : Int} (ho : 0 ≤ n ∧ n < 8) (hg : allOff (upd s.go n.toNat false) = false) : RC 90 [.int .i64 n] s (leftS s n) [] := by
  refine RC.mkN ?_
  · skip
    exact pth (dr s ([iv n] ++ b8 (upd s.go n.toNat false) ++ b8 (upd s.sh n.toNat false) ++ n8 (upd s.ops n.toNat (0))) [olv 1 s.line, .v (pt 0 (30 + n.toNat)), .v (pt 0 (2 + n.toNat)), .v (pt 0 (18 + n.toNat))] [encL s.line]) ⟨[kx 48 0 30 40 1, kx 48 0 2 40 2, kx 30 0 18 40 3, kt .neq 48 (.agg (v8 41)) (.agg #[.bool false, .bool false, .bool false, .bool false, .bool false, .bool false, .bool false, .bool false])], [], [([4, 1000001], eStR 1 (.bool false) 2 [] (p8 30 41) 1 0), ([4, 1000001], eStR 2 (.bool false) 2 (p8 30 41) (p8 2 49 ++ p8 30 41) 1 0), ([2, 1000001], eStR 3 (iv 0) 2 (p8 2 49 ++ p8 30 41) (p8 2 49 ++ p8 18 57 ++ p8 30 41) 1 0)]⟩ [] ⟨iA u48 z4 rfl rfl, iA u48 z4 rfl rfl, iA u30 z2 rfl rfl, asNeA (c := false) (Eq.trans (b := some (allOff (upd s.go n.toNat false))) (by kernel_rfl) (congrArg some hg)) rfl, trivial⟩ trivial ⟨st (sgo s s.line n.toNat false), st (ssh { s with go := (upd s.go n.toNat false) : St } s.line n.toNat false), st (sops { s with sh := (upd s.sh n.toNat false), go := (upd s.go n.toNat false) : St } s.line n.toNat (0)), trivial⟩ trivial 2 (rlockL []) (lockP ++ [sv 40]) [(0, 0), (1, 3)]
theorem awayR_all {s t : St} {n : Int} {o : List Ord} (ho : 0 ≤ n ∧ n < 8) (hg : allOff (upd s.go n.toNat false) = true) (h : RC 91 [] (leftS s n) t o) : RC 90 [.int .i64 n] s t o := by
  obtain ⟨cap, hcap, hN⟩ := h
  refine RC.mk (cap := cap) ?_
  · skip
    exact pth (dr s ([iv n] ++ b8 (upd s.go n.toNat false) ++ b8 (upd s.sh n.toNat false) ++ n8 (upd s.ops n.toNat (0)) ++ tv t) [olv 1 s.line, .v (pt 0 (30 + n.toNat)), .v (pt 0 (2 + n.toNat)), .v (pt 0 (18 + n.toNat)), olv 2 t.line, oord 3 cap o] [encL s.line, encL t.line, encOrds o]) ⟨[kx 48 0 30 40 1, kx 48 0 2 40 2, kx 30 0 18 40 3, kf .neq 48 (.agg (v8 41)) (.agg #[.bool false, .bool false, .bool false, .bool false, .bool false, .bool false, .bool false, .bool false])], [], [([4, 1000001], eStR 1 (.bool false) 2 [] (p8 30 41) 1 0), ([4, 1000001], eStR 2 (.bool false) 2 (p8 30 41) (p8 2 49 ++ p8 30 41) 1 0), ([2, 1000001], eStR 3 (iv 0) 2 (p8 2 49 ++ p8 30 41) (p8 2 49 ++ p8 18 57 ++ p8 30 41) 1 0)]⟩ [(91, [eCR [pt 0 0] 2 (p8 2 49 ++ p8 18 57 ++ p8 30 41) 65 4 1 0 1 2 (ch 5)])] ⟨iA u48 z4 rfl rfl, iA u48 z4 rfl rfl, iA u30 z2 rfl rfl, asNeA (c := true) (Eq.trans (b := some (allOff (upd s.go n.toNat false))) (by kernel_rfl) (congrArg some hg)) rfl, trivial⟩ trivial ⟨st (sgo s s.line n.toNat false), st (ssh { s with go := (upd s.go n.toNat false) : St } s.line n.toNat false), st (sops { s with sh := (upd s.sh n.toNat false), go := (upd s.go n.toNat false) : St } s.line n.toNat (0)), trivial⟩ ⟨oe (toD hN), trivial⟩ 2 (rlockL []) (lockP ++ [sv 40]) [(0, 0), (2, 3), (3, 2)]
theorem wentR_out {s : St} {n op : Int} (ho : ¬ ((0 ≤ n ∧ n < 8) ∧ s.wt = 1 ∧ op = s.op ∧ s.go n.toNat = true)) : RC 56 [.int .i64 n, .int .i64 op] s s [] := by
  refine RC.mkN ?_
  · by_cases h0 : ((n) : Int) ≥ (0)
    · by_cases h1 : ((n) : Int) < (8)
      · by_cases h2 : ((s.wt) : Int) = (1)
        · by_cases h3 : ((op) : Int) = (s.op)
          · by_cases h4 : s.go n.toNat = true
            · exact ab ho
            · skip
              exact pth (dr s [iv n, iv op, .bool (s.go n.toNat)] [olv 1 s.line, .v (pt 0 (30 + n.toNat))] [encL s.line]) ⟨[kt .geq 3 (sv 40) (iv 0), kt .lss 3 (sv 40) (iv 8), kf .neq 3 (sv 29) (iv 1), kf .neq 2 (sv 41) (sv 39), kx 48 0 30 40 1, (.un .not (sv 42), .bool true)], [], [([4, 1000000], eLdR 1 2 [] 1 0 42)]⟩ [] ⟨qT (n ≥ 0), qT (n < 8), nF s.wt 1, nF op s.op, iA u48 z4 rfl rfl, asB (c := !(s.go n.toNat)) (by kernel_rfl) (by rw [show s.go n.toNat = false from Bool.eq_false_iff.2 h4]; rfl), trivial⟩ trivial ⟨ld (lgo s s.line n.toNat), trivial⟩ trivial 2 (rlockL []) (lockP ++ [sv 40, sv 41]) [(0, 0), (1, 3)]
          · skip
            exact pth (dr s [iv n, iv op] [olv 1 s.line] [encL s.line]) ⟨[kt .geq 3 (sv 40) (iv 0), kt .lss 3 (sv 40) (iv 8), kf .neq 3 (sv 29) (iv 1), kt .neq 2 (sv 41) (sv 39)], [], []⟩ [] ⟨qT (n ≥ 0), qT (n < 8), nF s.wt 1, nT op s.op, trivial⟩ trivial trivial trivial 2 (rlockL []) (lockP ++ [sv 40, sv 41]) [(0, 0), (1, 3)]
        · skip
          exact pth (dr s [iv n, iv op] [olv 1 s.line] [encL s.line]) ⟨[kt .geq 3 (sv 40) (iv 0), kt .lss 3 (sv 40) (iv 8), kt .neq 3 (sv 29) (iv 1)], [], []⟩ [] ⟨qT (n ≥ 0), qT (n < 8), nT s.wt 1, trivial⟩ trivial trivial trivial 2 (rlockL []) (lockP ++ [sv 40, sv 41]) [(0, 0), (1, 3)]
      · skip
        exact pth (dr s [iv n, iv op] [olv 1 s.line] [encL s.line]) ⟨[kt .geq 3 (sv 40) (iv 0), kf .lss 3 (sv 40) (iv 8)], [], []⟩ [] ⟨qT (n ≥ 0), qF (n < 8), trivial⟩ trivial trivial trivial 2 (rlockL []) (lockP ++ [sv 40, sv 41]) [(0, 0), (1, 3)]
    · skip
      exact pth (dr s [iv n, iv op] [olv 1 s.line] [encL s.line]) ⟨[kf .geq 3 (sv 40) (iv 0)], [], []⟩ [] ⟨qF (n ≥ 0), trivial⟩ trivial trivial trivial 2 (rlockL []) (lockP ++ [sv 40, sv 41]) [(0, 0), (1, 3)]
theorem wentR_in {s t : St} {n op : Int} {o : List Ord} (ho : (0 ≤ n ∧ n < 8) ∧ s.wt = 1 ∧ op = s.op ∧ s.go n.toNat = true) (h : RC 90 [.int .i64 n] s t o) : RC 56 [.int .i64 n, .int .i64 op] s t o := by
  obtain ⟨cap, hcap, hN⟩ := h
  refine RC.mk (cap := cap) ?_
  · by_cases h0 : ((n) : Int) ≥ (0)
    · by_cases h1 : ((n) : Int) < (8)
      · by_cases h2 : ((s.wt) : Int) = (1)
        · by_cases h3 : ((op) : Int) = (s.op)
          · by_cases h4 : s.go n.toNat = true
            · skip
              exact pth (dr s ([iv n, iv op, .bool (s.go n.toNat)] ++ tv t) [olv 1 s.line, .v (pt 0 (30 + n.toNat)), olv 2 t.line, oord 3 cap o] [encL s.line, encL t.line, encOrds o]) ⟨[kt .geq 3 (sv 40) (iv 0), kt .lss 3 (sv 40) (iv 8), kf .neq 3 (sv 29) (iv 1), kf .neq 2 (sv 41) (sv 39), kx 48 0 30 40 1, (.un .not (sv 42), .bool false)], [], [([4, 1000000], eLdR 1 2 [] 1 0 42)]⟩ [(90, [eCR [pt 0 0, sv 40] 2 [] 43 2 1 0 1 2 (ch 3)])] ⟨qT (n ≥ 0), qT (n < 8), nF s.wt 1, nF op s.op, iA u48 z4 rfl rfl, asB (c := !(s.go n.toNat)) (by kernel_rfl) (by rw [show s.go n.toNat = true from h4]; rfl), trivial⟩ trivial ⟨ld (lgo s s.line n.toNat), trivial⟩ ⟨oe (toD hN), trivial⟩ 2 (rlockL []) (lockP ++ [sv 40, sv 41]) [(0, 0), (2, 3), (3, 2)]
            · exact ab ho
          · exact ab ho
        · exact ab ho
      · exact ab ho
    · exact ab ho
def gotR (s : St) (n op : Int) : St :=
  if s.hk = 1 then
    (if s.su ≥ 0 then (if s.x = s.su then gotA (gotB s op) n op else if s.sh s.su.toNat = true then gotA (gotB s op) n op else gotA s n op) else gotA s n op)
  else if s.su ≥ 0 then (if s.su = s.owner then gotC { s with pa := upd s.pa s.su.toNat true } n op else gotC s n op) else gotC s n op
theorem gotR_eq {s : St} {n op : Int} (h : -1 ≤ s.su) : gotR s n op = gotS s n op := by
  unfold gotR gotS
  by_cases hu : s.su = -1
  · have h1 : ¬ s.su ≥ 0 := by omega
    simp only [if_neg h1, if_pos hu]
  · have h1 : s.su ≥ 0 := by omega
    simp only [if_pos h1, if_neg hu]
theorem gotR_out {s : St} {n op : Int} (_hi : s.wt = 2 → Hand s) (_hv : -1 ≤ s.su ∧ s.su < 8) (ho : ¬ ((0 ≤ n ∧ n < 8) ∧ s.wt = 2 ∧ op = s.op ∧ n = s.hn)) : RC 57 [.int .i64 n, .int .i64 op] s s [] := by
  refine RC.mkN ?_
  · by_cases h0 : ((n) : Int) ≥ (0)
    · by_cases h1 : ((n) : Int) < (8)
      · by_cases h2 : ((s.wt) : Int) = (2)
        · by_cases h3 : ((op) : Int) = (s.op)
          · by_cases h4 : ((n) : Int) = (s.hn)
            · by_cases h5 : ((s.hk) : Int) = (1)
              · by_cases h6 : ((s.su) : Int) ≥ (0)
                · by_cases h7 : ((s.x) : Int) = (s.su)
                  · exact ab ho
                  · by_cases h8 : s.sh s.su.toNat = true
                    · exact ab ho
                    · exact ab ho
                · exact ab ho
              · by_cases h9 : ((s.su) : Int) ≥ (0)
                · by_cases h10 : ((s.su) : Int) = (s.owner)
                  · exact ab ho
                  · exact ab ho
                · exact ab ho
            · skip
              exact pth (dr s [iv n, iv op] [olv 1 s.line] [encL s.line]) ⟨[kt .geq 3 (sv 40) (iv 0), kt .lss 3 (sv 40) (iv 8), kf .neq 3 (sv 29) (iv 2), kf .neq 2 (sv 41) (sv 39), kt .neq 3 (sv 40) (sv 27)], [], []⟩ [] ⟨qT (n ≥ 0), qT (n < 8), nF s.wt 2, nF op s.op, nT n s.hn, trivial⟩ trivial trivial trivial 2 (rlockL []) (lockP ++ [sv 40, sv 41]) [(0, 0), (1, 3)]
          · skip
            exact pth (dr s [iv n, iv op] [olv 1 s.line] [encL s.line]) ⟨[kt .geq 3 (sv 40) (iv 0), kt .lss 3 (sv 40) (iv 8), kf .neq 3 (sv 29) (iv 2), kt .neq 2 (sv 41) (sv 39)], [], []⟩ [] ⟨qT (n ≥ 0), qT (n < 8), nF s.wt 2, nT op s.op, trivial⟩ trivial trivial trivial 2 (rlockL []) (lockP ++ [sv 40, sv 41]) [(0, 0), (1, 3)]
        · skip
          exact pth (dr s [iv n, iv op] [olv 1 s.line] [encL s.line]) ⟨[kt .geq 3 (sv 40) (iv 0), kt .lss 3 (sv 40) (iv 8), kt .neq 3 (sv 29) (iv 2)], [], []⟩ [] ⟨qT (n ≥ 0), qT (n < 8), nT s.wt 2, trivial⟩ trivial trivial trivial 2 (rlockL []) (lockP ++ [sv 40, sv 41]) [(0, 0), (1, 3)]
      · skip
        exact pth (dr s [iv n, iv op] [olv 1 s.line] [encL s.line]) ⟨[kt .geq 3 (sv 40) (iv 0), kf .lss 3 (sv 40) (iv 8)], [], []⟩ [] ⟨qT (n ≥ 0), qF (n < 8), trivial⟩ trivial trivial trivial 2 (rlockL []) (lockP ++ [sv 40, sv 41]) [(0, 0), (1, 3)]
    · skip
      exact pth (dr s [iv n, iv op] [olv 1 s.line] [encL s.line]) ⟨[kf .geq 3 (sv 40) (iv 0)], [], []⟩ [] ⟨qF (n ≥ 0), trivial⟩ trivial trivial trivial 2 (rlockL []) (lockP ++ [sv 40, sv 41]) [(0, 0), (1, 3)]
theorem gotR_in {s t : St} {n op : Int} {o : List Ord} (hi : 0 ≤ s.hn ∧ s.hn < 8) (hv : -1 ≤ s.su ∧ s.su < 8) (ho : s.wt = 2 ∧ op = s.op ∧ n = s.hn) (h : RC 89 [] (gotR s n op) t o) : RC 57 [.int .i64 n, .int .i64 op] s t o := by
  obtain ⟨cap, hcap, hN⟩ := h
  refine RC.mk (cap := cap) ?_
  · by_cases h0 : ((n) : Int) ≥ (0)
    · by_cases h1 : ((n) : Int) < (8)
      · by_cases h2 : ((s.wt) : Int) = (2)
        · by_cases h3 : ((op) : Int) = (s.op)
          · by_cases h4 : ((n) : Int) = (s.hn)
            · by_cases h5 : ((s.hk) : Int) = (1)
              · by_cases h6 : ((s.su) : Int) ≥ (0)
                · by_cases h7 : ((s.x) : Int) = (s.su)
                  · simp only [gotR, if_pos h5, if_pos h6, if_pos h7] at hN
                    exact pth (dr s ([iv n, iv op] ++ b8 (upd s.sh s.su.toNat true) ++ n8 (upd s.ops s.su.toNat (op)) ++ b8 (upd (upd s.sh s.su.toNat true) n.toNat true) ++ n8 (upd (upd s.ops s.su.toNat (op)) n.toNat (op)) ++ tv t) [olv 1 s.line, .v (pt 0 (2 + s.su.toNat)), .v (pt 0 (18 + s.su.toNat)), .v (pt 0 (2 + n.toNat)), .v (pt 0 (18 + n.toNat)), olv 2 t.line, oord 3 cap o] [encL s.line, encL t.line, encOrds o]) ⟨[kt .geq 3 (sv 40) (iv 0), kt .lss 3 (sv 40) (iv 8), kf .neq 3 (sv 29) (iv 2), kf .neq 2 (sv 41) (sv 39), kf .neq 3 (sv 40) (sv 27), kt .eql 32 (sv 28) (iv 1), kt .geq 3 (sv 38) (iv 0), kt .eql 3 (sv 0) (sv 38), kx 48 0 2 38 1, kx 30 0 18 38 2, kx 48 0 2 40 3, kx 30 0 18 40 4], [], [([4, 1000001], eStR 1 (.bool true) 2 [] (p8 2 42) 1 0), ([2, 1000001], eStR 2 (sv 41) 2 (p8 2 42) (p8 2 42 ++ p8 18 50) 1 0), ([4, 1000001], eStR 3 (.bool true) 2 [(0, iv (-1)), (2, sv 42), (3, sv 43), (4, sv 44), (5, sv 45), (6, sv 46), (7, sv 47), (8, sv 48), (9, sv 49), (18, sv 50), (19, sv 51), (20, sv 52), (21, sv 53), (22, sv 54), (23, sv 55), (24, sv 56), (25, sv 57)] [(0, iv (-1)), (2, sv 58), (3, sv 59), (4, sv 60), (5, sv 61), (6, sv 62), (7, sv 63), (8, sv 64), (9, sv 65), (18, sv 50), (19, sv 51), (20, sv 52), (21, sv 53), (22, sv 54), (23, sv 55), (24, sv 56), (25, sv 57)] 1 0), ([2, 1000001], eStR 4 (sv 41) 2 [(0, iv (-1)), (2, sv 58), (3, sv 59), (4, sv 60), (5, sv 61), (6, sv 62), (7, sv 63), (8, sv 64), (9, sv 65), (18, sv 50), (19, sv 51), (20, sv 52), (21, sv 53), (22, sv 54), (23, sv 55), (24, sv 56), (25, sv 57)] [(0, iv (-1)), (2, sv 58), (3, sv 59), (4, sv 60), (5, sv 61), (6, sv 62), (7, sv 63), (8, sv 64), (9, sv 65), (18, sv 66), (19, sv 67), (20, sv 68), (21, sv 69), (22, sv 70), (23, sv 71), (24, sv 72), (25, sv 73)] 1 0)]⟩ [(89, [eCR [pt 0 0] 2 [(0, iv (-1)), (2, sv 58), (3, sv 59), (4, sv 60), (5, sv 61), (6, sv 62), (7, sv 63), (8, sv 64), (9, sv 65), (18, sv 66), (19, sv 67), (20, sv 68), (21, sv 69), (22, sv 70), (23, sv 71), (24, sv 72), (25, sv 73)] 74 5 1 0 1 2 (ch 6)])] ⟨qT (n ≥ 0), qT (n < 8), nF s.wt 2, nF op s.op, nF n s.hn, eT s.hk 1, qT (s.su ≥ 0), eT s.x s.su, iA u48 z4 rfl rfl, iA u30 z2 rfl rfl, iA u48 z4 rfl rfl, iA u30 z2 rfl rfl, trivial⟩ trivial ⟨st (ssh s s.line s.su.toNat true), st (sops { s with sh := (upd s.sh s.su.toNat true) : St } s.line s.su.toNat (op)), st (ssh { s with x := (-1), sh := (upd s.sh s.su.toNat true), ops := (upd s.ops s.su.toNat (op)) : St } s.line n.toNat true), st (sops { s with x := (-1), sh := (upd (upd s.sh s.su.toNat true) n.toNat true), ops := (upd s.ops s.su.toNat (op)) : St } s.line n.toNat (op)), trivial⟩ ⟨oe (toD hN), trivial⟩ 2 (rlockL []) (lockP ++ [sv 40, sv 41]) [(0, 0), (2, 3), (3, 2)]
                  · by_cases h8 : s.sh s.su.toNat = true
                    · simp only [gotR, if_pos h5, if_pos h6, if_neg h7, if_pos h8] at hN
                      exact pth (dr s ([iv n, iv op, .bool (s.sh s.su.toNat)] ++ b8 (upd s.sh s.su.toNat true) ++ n8 (upd s.ops s.su.toNat (op)) ++ b8 (upd (upd s.sh s.su.toNat true) n.toNat true) ++ n8 (upd (upd s.ops s.su.toNat (op)) n.toNat (op)) ++ tv t) [olv 1 s.line, .v (pt 0 (2 + s.su.toNat)), .v (pt 0 (18 + s.su.toNat)), .v (pt 0 (2 + n.toNat)), .v (pt 0 (18 + n.toNat)), olv 2 t.line, oord 3 cap o] [encL s.line, encL t.line, encOrds o]) ⟨[kt .geq 3 (sv 40) (iv 0), kt .lss 3 (sv 40) (iv 8), kf .neq 3 (sv 29) (iv 2), kf .neq 2 (sv 41) (sv 39), kf .neq 3 (sv 40) (sv 27), kt .eql 32 (sv 28) (iv 1), kt .geq 3 (sv 38) (iv 0), kf .eql 3 (sv 0) (sv 38), kx 48 0 2 38 1, tt 42, kx 30 0 18 38 2, kx 48 0 2 40 3, kx 30 0 18 40 4], [], [([4, 1000000], eLdR 1 2 [] 1 0 42), ([4, 1000001], eStR 1 (.bool true) 2 [] (p8 2 43) 1 0), ([2, 1000001], eStR 2 (sv 41) 2 (p8 2 43) (p8 2 43 ++ p8 18 51) 1 0), ([4, 1000001], eStR 3 (.bool true) 2 [(0, iv (-1)), (2, sv 43), (3, sv 44), (4, sv 45), (5, sv 46), (6, sv 47), (7, sv 48), (8, sv 49), (9, sv 50), (18, sv 51), (19, sv 52), (20, sv 53), (21, sv 54), (22, sv 55), (23, sv 56), (24, sv 57), (25, sv 58)] [(0, iv (-1)), (2, sv 59), (3, sv 60), (4, sv 61), (5, sv 62), (6, sv 63), (7, sv 64), (8, sv 65), (9, sv 66), (18, sv 51), (19, sv 52), (20, sv 53), (21, sv 54), (22, sv 55), (23, sv 56), (24, sv 57), (25, sv 58)] 1 0), ([2, 1000001], eStR 4 (sv 41) 2 [(0, iv (-1)), (2, sv 59), (3, sv 60), (4, sv 61), (5, sv 62), (6, sv 63), (7, sv 64), (8, sv 65), (9, sv 66), (18, sv 51), (19, sv 52), (20, sv 53), (21, sv 54), (22, sv 55), (23, sv 56), (24, sv 57), (25, sv 58)] [(0, iv (-1)), (2, sv 59), (3, sv 60), (4, sv 61), (5, sv 62), (6, sv 63), (7, sv 64), (8, sv 65), (9, sv 66), (18, sv 67), (19, sv 68), (20, sv 69), (21, sv 70), (22, sv 71), (23, sv 72), (24, sv 73), (25, sv 74)] 1 0)]⟩ [(89, [eCR [pt 0 0] 2 [(0, iv (-1)), (2, sv 59), (3, sv 60), (4, sv 61), (5, sv 62), (6, sv 63), (7, sv 64), (8, sv 65), (9, sv 66), (18, sv 67), (19, sv 68), (20, sv 69), (21, sv 70), (22, sv 71), (23, sv 72), (24, sv 73), (25, sv 74)] 75 5 1 0 1 2 (ch 6)])] ⟨qT (n ≥ 0), qT (n < 8), nF s.wt 2, nF op s.op, nF n s.hn, eT s.hk 1, qT (s.su ≥ 0), eF s.x s.su, iA u48 z4 rfl rfl, tB h8, iA u30 z2 rfl rfl, iA u48 z4 rfl rfl, iA u30 z2 rfl rfl, trivial⟩ trivial ⟨ld (lsh s s.line s.su.toNat), st (ssh s s.line s.su.toNat true), st (sops { s with sh := (upd s.sh s.su.toNat true) : St } s.line s.su.toNat (op)), st (ssh { s with x := (-1), sh := (upd s.sh s.su.toNat true), ops := (upd s.ops s.su.toNat (op)) : St } s.line n.toNat true), st (sops { s with x := (-1), sh := (upd (upd s.sh s.su.toNat true) n.toNat true), ops := (upd s.ops s.su.toNat (op)) : St } s.line n.toNat (op)), trivial⟩ ⟨oe (toD hN), trivial⟩ 2 (rlockL []) (lockP ++ [sv 40, sv 41]) [(0, 0), (2, 3), (3, 2)]
                    · simp only [gotR, if_pos h5, if_pos h6, if_neg h7, if_neg h8] at hN
                      exact pth (dr s ([iv n, iv op, .bool (s.sh s.su.toNat)] ++ b8 (upd s.sh n.toNat true) ++ n8 (upd s.ops n.toNat (op)) ++ tv t) [olv 1 s.line, .v (pt 0 (2 + s.su.toNat)), .v (pt 0 (2 + n.toNat)), .v (pt 0 (18 + n.toNat)), olv 2 t.line, oord 3 cap o] [encL s.line, encL t.line, encOrds o]) ⟨[kt .geq 3 (sv 40) (iv 0), kt .lss 3 (sv 40) (iv 8), kf .neq 3 (sv 29) (iv 2), kf .neq 2 (sv 41) (sv 39), kf .neq 3 (sv 40) (sv 27), kt .eql 32 (sv 28) (iv 1), kt .geq 3 (sv 38) (iv 0), kf .eql 3 (sv 0) (sv 38), kx 48 0 2 38 1, tf 42, kx 48 0 2 40 2, kx 30 0 18 40 3], [], [([4, 1000000], eLdR 1 2 [] 1 0 42), ([4, 1000001], eStR 2 (.bool true) 2 [] (p8 2 43) 1 0), ([2, 1000001], eStR 3 (sv 41) 2 (p8 2 43) (p8 2 43 ++ p8 18 51) 1 0)]⟩ [(89, [eCR [pt 0 0] 2 (p8 2 43 ++ p8 18 51) 59 4 1 0 1 2 (ch 5)])] ⟨qT (n ≥ 0), qT (n < 8), nF s.wt 2, nF op s.op, nF n s.hn, eT s.hk 1, qT (s.su ≥ 0), eF s.x s.su, iA u48 z4 rfl rfl, tB (Bool.eq_false_iff.2 h8), iA u48 z4 rfl rfl, iA u30 z2 rfl rfl, trivial⟩ trivial ⟨ld (lsh s s.line s.su.toNat), st (ssh s s.line n.toNat true), st (sops { s with sh := (upd s.sh n.toNat true) : St } s.line n.toNat (op)), trivial⟩ ⟨oe (toD hN), trivial⟩ 2 (rlockL []) (lockP ++ [sv 40, sv 41]) [(0, 0), (2, 3), (3, 2)]
                · simp only [gotR, if_pos h5, if_neg h6] at hN
                  exact pth (dr s ([iv n, iv op] ++ b8 (upd s.sh n.toNat true) ++ n8 (upd s.ops n.toNat (op)) ++ tv t) [olv 1 s.line, .v (pt 0 (2 + n.toNat)), .v (pt 0 (18 + n.toNat)), olv 2 t.line, oord 3 cap o] [encL s.line, encL t.line, encOrds o]) ⟨[kt .geq 3 (sv 40) (iv 0), kt .lss 3 (sv 40) (iv 8), kf .neq 3 (sv 29) (iv 2), kf .neq 2 (sv 41) (sv 39), kf .neq 3 (sv 40) (sv 27), kt .eql 32 (sv 28) (iv 1), kf .geq 3 (sv 38) (iv 0), kx 48 0 2 40 1, kx 30 0 18 40 2], [], [([4, 1000001], eStR 1 (.bool true) 2 [] (p8 2 42) 1 0), ([2, 1000001], eStR 2 (sv 41) 2 (p8 2 42) (p8 2 42 ++ p8 18 50) 1 0)]⟩ [(89, [eCR [pt 0 0] 2 (p8 2 42 ++ p8 18 50) 58 3 1 0 1 2 (ch 4)])] ⟨qT (n ≥ 0), qT (n < 8), nF s.wt 2, nF op s.op, nF n s.hn, eT s.hk 1, qF (s.su ≥ 0), iA u48 z4 rfl rfl, iA u30 z2 rfl rfl, trivial⟩ trivial ⟨st (ssh s s.line n.toNat true), st (sops { s with sh := (upd s.sh n.toNat true) : St } s.line n.toNat (op)), trivial⟩ ⟨oe (toD hN), trivial⟩ 2 (rlockL []) (lockP ++ [sv 40, sv 41]) [(0, 0), (2, 3), (3, 2)]
              · by_cases h9 : ((s.su) : Int) ≥ (0)
                · by_cases h10 : ((s.su) : Int) = (s.owner)
                  · simp only [gotR, if_neg h5, if_pos h9, if_pos h10] at hN
                    exact pth (dr s ([iv n, iv op] ++ b8 (upd s.pa s.su.toNat true) ++ n8 (upd (fun _ => 0) n.toNat (op)) ++ tv t) [olv 1 s.line, .v (pt 0 (10 + s.su.toNat)), .v (pt 0 (18 + n.toNat)), olv 2 t.line, oord 3 cap o] [encL s.line, encL t.line, encOrds o]) ⟨[kt .geq 3 (sv 40) (iv 0), kt .lss 3 (sv 40) (iv 8), kf .neq 3 (sv 29) (iv 2), kf .neq 2 (sv 41) (sv 39), kf .neq 3 (sv 40) (sv 27), kf .eql 32 (sv 28) (iv 1), kt .geq 3 (sv 38) (iv 0), kt .eql 3 (sv 38) (sv 1), kx 48 0 10 38 1, kx 30 0 18 40 2], [], [([4, 1000001], eStR 1 (.bool true) 2 [] (p8 10 42) 1 0), ([2, 1000001], eStR 2 (sv 41) 2 [(2, .bool false), (3, .bool false), (4, .bool false), (5, .bool false), (6, .bool false), (7, .bool false), (8, .bool false), (9, .bool false), (10, sv 42), (11, sv 43), (12, sv 44), (13, sv 45), (14, sv 46), (15, sv 47), (16, sv 48), (17, sv 49), (18, iv 0), (19, iv 0), (20, iv 0), (21, iv 0), (22, iv 0), (23, iv 0), (24, iv 0), (25, iv 0)] [(2, .bool false), (3, .bool false), (4, .bool false), (5, .bool false), (6, .bool false), (7, .bool false), (8, .bool false), (9, .bool false), (10, sv 42), (11, sv 43), (12, sv 44), (13, sv 45), (14, sv 46), (15, sv 47), (16, sv 48), (17, sv 49), (18, sv 50), (19, sv 51), (20, sv 52), (21, sv 53), (22, sv 54), (23, sv 55), (24, sv 56), (25, sv 57)] 1 0)]⟩ [(89, [eCR [pt 0 0] 2 ([(0, sv 40), (1, sv 40), (2, .bool false), (3, .bool false), (4, .bool false), (5, .bool false), (6, .bool false), (7, .bool false), (8, .bool false), (9, .bool false)] ++ p8 10 42 ++ p8 18 50) 58 3 1 0 1 2 (ch 4)])] ⟨qT (n ≥ 0), qT (n < 8), nF s.wt 2, nF op s.op, nF n s.hn, eF s.hk 1, qT (s.su ≥ 0), eT s.su s.owner, iA u48 z4 rfl rfl, iA u30 z2 rfl rfl, trivial⟩ trivial ⟨st (spa s s.line s.su.toNat true), st (sops { s with sh := (fun _ => false), pa := (upd s.pa s.su.toNat true), ops := (fun _ => 0) : St } s.line n.toNat (op)), trivial⟩ ⟨oe (toD hN), trivial⟩ 2 (rlockL []) (lockP ++ [sv 40, sv 41]) [(0, 0), (2, 3), (3, 2)]
                  · simp only [gotR, if_neg h5, if_pos h9, if_neg h10] at hN
                    exact pth (dr s ([iv n, iv op] ++ n8 (upd (fun _ => 0) n.toNat (op)) ++ tv t) [olv 1 s.line, .v (pt 0 (18 + n.toNat)), olv 2 t.line, oord 3 cap o] [encL s.line, encL t.line, encOrds o]) ⟨[kt .geq 3 (sv 40) (iv 0), kt .lss 3 (sv 40) (iv 8), kf .neq 3 (sv 29) (iv 2), kf .neq 2 (sv 41) (sv 39), kf .neq 3 (sv 40) (sv 27), kf .eql 32 (sv 28) (iv 1), kt .geq 3 (sv 38) (iv 0), kf .eql 3 (sv 38) (sv 1), kx 30 0 18 40 1], [], [([2, 1000001], eStR 1 (sv 41) 2 [(2, .bool false), (3, .bool false), (4, .bool false), (5, .bool false), (6, .bool false), (7, .bool false), (8, .bool false), (9, .bool false), (18, iv 0), (19, iv 0), (20, iv 0), (21, iv 0), (22, iv 0), (23, iv 0), (24, iv 0), (25, iv 0)] [(2, .bool false), (3, .bool false), (4, .bool false), (5, .bool false), (6, .bool false), (7, .bool false), (8, .bool false), (9, .bool false), (18, sv 42), (19, sv 43), (20, sv 44), (21, sv 45), (22, sv 46), (23, sv 47), (24, sv 48), (25, sv 49)] 1 0)]⟩ [(89, [eCR [pt 0 0] 2 ([(0, sv 40), (1, sv 40), (2, .bool false), (3, .bool false), (4, .bool false), (5, .bool false), (6, .bool false), (7, .bool false), (8, .bool false), (9, .bool false)] ++ p8 18 42) 50 2 1 0 1 2 (ch 3)])] ⟨qT (n ≥ 0), qT (n < 8), nF s.wt 2, nF op s.op, nF n s.hn, eF s.hk 1, qT (s.su ≥ 0), eF s.su s.owner, iA u30 z2 rfl rfl, trivial⟩ trivial ⟨st (sops { s with sh := (fun _ => false), ops := (fun _ => 0) : St } s.line n.toNat (op)), trivial⟩ ⟨oe (toD hN), trivial⟩ 2 (rlockL []) (lockP ++ [sv 40, sv 41]) [(0, 0), (2, 3), (3, 2)]
                · simp only [gotR, if_neg h5, if_neg h9] at hN
                  exact pth (dr s ([iv n, iv op] ++ n8 (upd (fun _ => 0) n.toNat (op)) ++ tv t) [olv 1 s.line, .v (pt 0 (18 + n.toNat)), olv 2 t.line, oord 3 cap o] [encL s.line, encL t.line, encOrds o]) ⟨[kt .geq 3 (sv 40) (iv 0), kt .lss 3 (sv 40) (iv 8), kf .neq 3 (sv 29) (iv 2), kf .neq 2 (sv 41) (sv 39), kf .neq 3 (sv 40) (sv 27), kf .eql 32 (sv 28) (iv 1), kf .geq 3 (sv 38) (iv 0), kx 30 0 18 40 1], [], [([2, 1000001], eStR 1 (sv 41) 2 [(2, .bool false), (3, .bool false), (4, .bool false), (5, .bool false), (6, .bool false), (7, .bool false), (8, .bool false), (9, .bool false), (18, iv 0), (19, iv 0), (20, iv 0), (21, iv 0), (22, iv 0), (23, iv 0), (24, iv 0), (25, iv 0)] [(2, .bool false), (3, .bool false), (4, .bool false), (5, .bool false), (6, .bool false), (7, .bool false), (8, .bool false), (9, .bool false), (18, sv 42), (19, sv 43), (20, sv 44), (21, sv 45), (22, sv 46), (23, sv 47), (24, sv 48), (25, sv 49)] 1 0)]⟩ [(89, [eCR [pt 0 0] 2 ([(0, sv 40), (1, sv 40), (2, .bool false), (3, .bool false), (4, .bool false), (5, .bool false), (6, .bool false), (7, .bool false), (8, .bool false), (9, .bool false)] ++ p8 18 42) 50 2 1 0 1 2 (ch 3)])] ⟨qT (n ≥ 0), qT (n < 8), nF s.wt 2, nF op s.op, nF n s.hn, eF s.hk 1, qF (s.su ≥ 0), iA u30 z2 rfl rfl, trivial⟩ trivial ⟨st (sops { s with sh := (fun _ => false), ops := (fun _ => 0) : St } s.line n.toNat (op)), trivial⟩ ⟨oe (toD hN), trivial⟩ 2 (rlockL []) (lockP ++ [sv 40, sv 41]) [(0, 0), (2, 3), (3, 2)]
            · exact ab ho
          · exact ab ho
        · exact ab ho
      · exact ab ho
    · exact ab ho
theorem relR_out {s : St} {n op : Int} (ho : ¬ (0 ≤ n ∧ n < 8)) : RC 59 [.int .i64 n, .int .i64 op] s s [] := by
  refine RC.mkN ?_
  · by_cases h0 : ((n) : Int) ≥ (0)
    · by_cases h1 : ((n) : Int) < (8)
      · by_cases h2 : ((s.owner) : Int) = (n)
        · by_cases h3 : ((s.x) : Int) = (n)
          · by_cases h4 : ((s.wt) : Int) = (1)
            · by_cases h5 : s.go n.toNat = true
              · exact ab ho
              · exact ab ho
            · by_cases h6 : ((s.wt) : Int) = (2)
              · by_cases h7 : ((s.su) : Int) = (n)
                · by_cases h8 : ((op) : Int) < (s.op)
                  · exact ab ho
                  · exact ab ho
                · exact ab ho
              · by_cases h9 : ((s.wt) : Int) = (3)
                · exact ab ho
                · exact ab ho
          · by_cases h10 : ((s.wt) : Int) = (1)
            · by_cases h11 : s.go n.toNat = true
              · exact ab ho
              · exact ab ho
            · by_cases h12 : ((s.wt) : Int) = (2)
              · by_cases h13 : ((s.su) : Int) = (n)
                · by_cases h14 : ((op) : Int) < (s.op)
                  · exact ab ho
                  · exact ab ho
                · exact ab ho
              · by_cases h15 : ((s.wt) : Int) = (3)
                · exact ab ho
                · exact ab ho
        · by_cases h16 : ((s.x) : Int) = (n)
          · by_cases h17 : ((s.wt) : Int) = (1)
            · by_cases h18 : s.go n.toNat = true
              · exact ab ho
              · exact ab ho
            · by_cases h19 : ((s.wt) : Int) = (2)
              · by_cases h20 : ((s.su) : Int) = (n)
                · by_cases h21 : ((op) : Int) < (s.op)
                  · exact ab ho
                  · exact ab ho
                · exact ab ho
              · by_cases h22 : ((s.wt) : Int) = (3)
                · exact ab ho
                · exact ab ho
          · by_cases h23 : ((s.wt) : Int) = (1)
            · by_cases h24 : s.go n.toNat = true
              · exact ab ho
              · exact ab ho
            · by_cases h25 : ((s.wt) : Int) = (2)
              · by_cases h26 : ((s.su) : Int) = (n)
                · by_cases h27 : ((op) : Int) < (s.op)
                  · exact ab ho
                  · exact ab ho
                · exact ab ho
              · by_cases h28 : ((s.wt) : Int) = (3)
                · exact ab ho
                · exact ab ho
      · skip
        exact pth (dr s [iv n, iv op] [olv 1 s.line] [encL s.line]) ⟨[kt .geq 3 (sv 40) (iv 0), kf .lss 3 (sv 40) (iv 8)], [], []⟩ [] ⟨qT (n ≥ 0), qF (n < 8), trivial⟩ trivial trivial trivial 2 (rlockL []) (lockP ++ [sv 40, sv 41]) [(0, 0), (1, 3)]
    · skip
      exact pth (dr s [iv n, iv op] [olv 1 s.line] [encL s.line]) ⟨[kf .geq 3 (sv 40) (iv 0)], [], []⟩ [] ⟨qF (n ≥ 0), trivial⟩ trivial trivial trivial 2 (rlockL []) (lockP ++ [sv 40, sv 41]) [(0, 0), (1, 3)]
theorem relR_nil {s : St} {n op : Int} (ho : (0 ≤ n ∧ n < 8) ∧ ¬ (s.wt = 1 ∧ s.go n.toNat = true) ∧ ¬ (s.wt = 2 ∧ s.su = n ∧ op < s.op) ∧ ¬ (s.wt = 3 ∧ s.owner = n)) : RC 59 [.int .i64 n, .int .i64 op] s (relS s n) [] := by
  refine RC.mkN ?_
  · by_cases h0 : ((n) : Int) ≥ (0)
    · by_cases h1 : ((n) : Int) < (8)
      · by_cases h2 : ((s.owner) : Int) = (n)
        · by_cases h3 : ((s.x) : Int) = (n)
          · by_cases h4 : ((s.wt) : Int) = (1)
            · by_cases h5 : s.go n.toNat = true
              · exact ab ho
              · simp only [relS, if_pos h2, if_pos h3]
                exact pth (dr s ([iv n, iv op] ++ b8 (upd s.sh n.toNat false) ++ n8 (upd s.ops n.toNat (0)) ++ [.bool (s.go n.toNat)]) [olv 1 s.line, .v (pt 0 (2 + n.toNat)), .v (pt 0 (18 + n.toNat)), .v (pt 0 (30 + n.toNat))] [encL s.line]) ⟨[kt .geq 3 (sv 40) (iv 0), kt .lss 3 (sv 40) (iv 8), kt .eql 3 (sv 1) (sv 40), kx 48 0 2 40 1, kx 30 0 18 40 2, kt .eql 3 (sv 0) (sv 40), kt .eql 3 (sv 29) (iv 1), kx 48 0 30 40 3, tf 58, kf .eql 3 (sv 29) (iv 2), kf .eql 3 (sv 29) (iv 3)], [], [([4, 1000001], eStR 1 (.bool false) 2 [] (p8 2 42) 1 0), ([2, 1000001], eStR 2 (iv 0) 2 (p8 2 42) (p8 2 42 ++ p8 18 50) 1 0), ([4, 1000000], eLdR 3 2 [(0, iv (-1)), (1, iv (-1)), (2, sv 42), (3, sv 43), (4, sv 44), (5, sv 45), (6, sv 46), (7, sv 47), (8, sv 48), (9, sv 49), (18, sv 50), (19, sv 51), (20, sv 52), (21, sv 53), (22, sv 54), (23, sv 55), (24, sv 56), (25, sv 57)] 1 0 58)]⟩ [] ⟨qT (n ≥ 0), qT (n < 8), eT s.owner n, iA u48 z4 rfl rfl, iA u30 z2 rfl rfl, eT s.x n, eT s.wt 1, iA u48 z4 rfl rfl, tB (Bool.eq_false_iff.2 h5), eF s.wt 2, eF s.wt 3, trivial⟩ trivial ⟨st (ssh s s.line n.toNat false), st (sops { s with sh := (upd s.sh n.toNat false) : St } s.line n.toNat (0)), ld (lgo { s with x := (-1), owner := (-1), sh := (upd s.sh n.toNat false), ops := (upd s.ops n.toNat (0)) : St } s.line n.toNat), trivial⟩ trivial 2 (rlockL []) (lockP ++ [sv 40, sv 41]) [(0, 0), (1, 3)]
            · by_cases h6 : ((s.wt) : Int) = (2)
              · by_cases h7 : ((s.su) : Int) = (n)
                · by_cases h8 : ((op) : Int) < (s.op)
                  · exact ab ho
                  · simp only [relS, if_pos h2, if_pos h3]
                    exact pth (dr s ([iv n, iv op] ++ b8 (upd s.sh n.toNat false) ++ n8 (upd s.ops n.toNat (0))) [olv 1 s.line, .v (pt 0 (2 + n.toNat)), .v (pt 0 (18 + n.toNat))] [encL s.line]) ⟨[kt .geq 3 (sv 40) (iv 0), kt .lss 3 (sv 40) (iv 8), kt .eql 3 (sv 1) (sv 40), kx 48 0 2 40 1, kx 30 0 18 40 2, kt .eql 3 (sv 0) (sv 40), kf .eql 3 (sv 29) (iv 1), kt .eql 3 (sv 29) (iv 2), kt .eql 3 (sv 38) (sv 40), kf .lss 2 (sv 41) (sv 39), kf .eql 3 (sv 29) (iv 3)], [], [([4, 1000001], eStR 1 (.bool false) 2 [] (p8 2 42) 1 0), ([2, 1000001], eStR 2 (iv 0) 2 (p8 2 42) (p8 2 42 ++ p8 18 50) 1 0)]⟩ [] ⟨qT (n ≥ 0), qT (n < 8), eT s.owner n, iA u48 z4 rfl rfl, iA u30 z2 rfl rfl, eT s.x n, eF s.wt 1, eT s.wt 2, eT s.su n, qF (op < s.op), eF s.wt 3, trivial⟩ trivial ⟨st (ssh s s.line n.toNat false), st (sops { s with sh := (upd s.sh n.toNat false) : St } s.line n.toNat (0)), trivial⟩ trivial 2 (rlockL []) (lockP ++ [sv 40, sv 41]) [(0, 0), (1, 3)]
                · simp only [relS, if_pos h2, if_pos h3]
                  exact pth (dr s ([iv n, iv op] ++ b8 (upd s.sh n.toNat false) ++ n8 (upd s.ops n.toNat (0))) [olv 1 s.line, .v (pt 0 (2 + n.toNat)), .v (pt 0 (18 + n.toNat))] [encL s.line]) ⟨[kt .geq 3 (sv 40) (iv 0), kt .lss 3 (sv 40) (iv 8), kt .eql 3 (sv 1) (sv 40), kx 48 0 2 40 1, kx 30 0 18 40 2, kt .eql 3 (sv 0) (sv 40), kf .eql 3 (sv 29) (iv 1), kt .eql 3 (sv 29) (iv 2), kf .eql 3 (sv 38) (sv 40), kf .eql 3 (sv 29) (iv 3)], [], [([4, 1000001], eStR 1 (.bool false) 2 [] (p8 2 42) 1 0), ([2, 1000001], eStR 2 (iv 0) 2 (p8 2 42) (p8 2 42 ++ p8 18 50) 1 0)]⟩ [] ⟨qT (n ≥ 0), qT (n < 8), eT s.owner n, iA u48 z4 rfl rfl, iA u30 z2 rfl rfl, eT s.x n, eF s.wt 1, eT s.wt 2, eF s.su n, eF s.wt 3, trivial⟩ trivial ⟨st (ssh s s.line n.toNat false), st (sops { s with sh := (upd s.sh n.toNat false) : St } s.line n.toNat (0)), trivial⟩ trivial 2 (rlockL []) (lockP ++ [sv 40, sv 41]) [(0, 0), (1, 3)]
              · by_cases h9 : ((s.wt) : Int) = (3)
                · exact ab ho
                · simp only [relS, if_pos h2, if_pos h3]
                  exact pth (dr s ([iv n, iv op] ++ b8 (upd s.sh n.toNat false) ++ n8 (upd s.ops n.toNat (0))) [olv 1 s.line, .v (pt 0 (2 + n.toNat)), .v (pt 0 (18 + n.toNat))] [encL s.line]) ⟨[kt .geq 3 (sv 40) (iv 0), kt .lss 3 (sv 40) (iv 8), kt .eql 3 (sv 1) (sv 40), kx 48 0 2 40 1, kx 30 0 18 40 2, kt .eql 3 (sv 0) (sv 40), kf .eql 3 (sv 29) (iv 1), kf .eql 3 (sv 29) (iv 2), kf .eql 3 (sv 29) (iv 3)], [], [([4, 1000001], eStR 1 (.bool false) 2 [] (p8 2 42) 1 0), ([2, 1000001], eStR 2 (iv 0) 2 (p8 2 42) (p8 2 42 ++ p8 18 50) 1 0)]⟩ [] ⟨qT (n ≥ 0), qT (n < 8), eT s.owner n, iA u48 z4 rfl rfl, iA u30 z2 rfl rfl, eT s.x n, eF s.wt 1, eF s.wt 2, eF s.wt 3, trivial⟩ trivial ⟨st (ssh s s.line n.toNat false), st (sops { s with sh := (upd s.sh n.toNat false) : St } s.line n.toNat (0)), trivial⟩ trivial 2 (rlockL []) (lockP ++ [sv 40, sv 41]) [(0, 0), (1, 3)]
          · by_cases h10 : ((s.wt) : Int) = (1)
            · by_cases h11 : s.go n.toNat = true
              · exact ab ho
              · simp only [relS, if_pos h2, if_neg h3]
                exact pth (dr s ([iv n, iv op] ++ b8 (upd s.sh n.toNat false) ++ n8 (upd s.ops n.toNat (0)) ++ [.bool (s.go n.toNat)]) [olv 1 s.line, .v (pt 0 (2 + n.toNat)), .v (pt 0 (18 + n.toNat)), .v (pt 0 (30 + n.toNat))] [encL s.line]) ⟨[kt .geq 3 (sv 40) (iv 0), kt .lss 3 (sv 40) (iv 8), kt .eql 3 (sv 1) (sv 40), kx 48 0 2 40 1, kx 30 0 18 40 2, kf .eql 3 (sv 0) (sv 40), kt .eql 3 (sv 29) (iv 1), kx 48 0 30 40 3, tf 58, kf .eql 3 (sv 29) (iv 2), kf .eql 3 (sv 29) (iv 3)], [], [([4, 1000001], eStR 1 (.bool false) 2 [] (p8 2 42) 1 0), ([2, 1000001], eStR 2 (iv 0) 2 (p8 2 42) (p8 2 42 ++ p8 18 50) 1 0), ([4, 1000000], eLdR 3 2 [(1, iv (-1)), (2, sv 42), (3, sv 43), (4, sv 44), (5, sv 45), (6, sv 46), (7, sv 47), (8, sv 48), (9, sv 49), (18, sv 50), (19, sv 51), (20, sv 52), (21, sv 53), (22, sv 54), (23, sv 55), (24, sv 56), (25, sv 57)] 1 0 58)]⟩ [] ⟨qT (n ≥ 0), qT (n < 8), eT s.owner n, iA u48 z4 rfl rfl, iA u30 z2 rfl rfl, eF s.x n, eT s.wt 1, iA u48 z4 rfl rfl, tB (Bool.eq_false_iff.2 h11), eF s.wt 2, eF s.wt 3, trivial⟩ trivial ⟨st (ssh s s.line n.toNat false), st (sops { s with sh := (upd s.sh n.toNat false) : St } s.line n.toNat (0)), ld (lgo { s with owner := (-1), sh := (upd s.sh n.toNat false), ops := (upd s.ops n.toNat (0)) : St } s.line n.toNat), trivial⟩ trivial 2 (rlockL []) (lockP ++ [sv 40, sv 41]) [(0, 0), (1, 3)]
            · by_cases h12 : ((s.wt) : Int) = (2)
              · by_cases h13 : ((s.su) : Int) = (n)
                · by_cases h14 : ((op) : Int) < (s.op)
                  · exact ab ho
                  · simp only [relS, if_pos h2, if_neg h3]
                    exact pth (dr s ([iv n, iv op] ++ b8 (upd s.sh n.toNat false) ++ n8 (upd s.ops n.toNat (0))) [olv 1 s.line, .v (pt 0 (2 + n.toNat)), .v (pt 0 (18 + n.toNat))] [encL s.line]) ⟨[kt .geq 3 (sv 40) (iv 0), kt .lss 3 (sv 40) (iv 8), kt .eql 3 (sv 1) (sv 40), kx 48 0 2 40 1, kx 30 0 18 40 2, kf .eql 3 (sv 0) (sv 40), kf .eql 3 (sv 29) (iv 1), kt .eql 3 (sv 29) (iv 2), kt .eql 3 (sv 38) (sv 40), kf .lss 2 (sv 41) (sv 39), kf .eql 3 (sv 29) (iv 3)], [], [([4, 1000001], eStR 1 (.bool false) 2 [] (p8 2 42) 1 0), ([2, 1000001], eStR 2 (iv 0) 2 (p8 2 42) (p8 2 42 ++ p8 18 50) 1 0)]⟩ [] ⟨qT (n ≥ 0), qT (n < 8), eT s.owner n, iA u48 z4 rfl rfl, iA u30 z2 rfl rfl, eF s.x n, eF s.wt 1, eT s.wt 2, eT s.su n, qF (op < s.op), eF s.wt 3, trivial⟩ trivial ⟨st (ssh s s.line n.toNat false), st (sops { s with sh := (upd s.sh n.toNat false) : St } s.line n.toNat (0)), trivial⟩ trivial 2 (rlockL []) (lockP ++ [sv 40, sv 41]) [(0, 0), (1, 3)]
                · simp only [relS, if_pos h2, if_neg h3]
                  exact pth (dr s ([iv n, iv op] ++ b8 (upd s.sh n.toNat false) ++ n8 (upd s.ops n.toNat (0))) [olv 1 s.line, .v (pt 0 (2 + n.toNat)), .v (pt 0 (18 + n.toNat))] [encL s.line]) ⟨[kt .geq 3 (sv 40) (iv 0), kt .lss 3 (sv 40) (iv 8), kt .eql 3 (sv 1) (sv 40), kx 48 0 2 40 1, kx 30 0 18 40 2, kf .eql 3 (sv 0) (sv 40), kf .eql 3 (sv 29) (iv 1), kt .eql 3 (sv 29) (iv 2), kf .eql 3 (sv 38) (sv 40), kf .eql 3 (sv 29) (iv 3)], [], [([4, 1000001], eStR 1 (.bool false) 2 [] (p8 2 42) 1 0), ([2, 1000001], eStR 2 (iv 0) 2 (p8 2 42) (p8 2 42 ++ p8 18 50) 1 0)]⟩ [] ⟨qT (n ≥ 0), qT (n < 8), eT s.owner n, iA u48 z4 rfl rfl, iA u30 z2 rfl rfl, eF s.x n, eF s.wt 1, eT s.wt 2, eF s.su n, eF s.wt 3, trivial⟩ trivial ⟨st (ssh s s.line n.toNat false), st (sops { s with sh := (upd s.sh n.toNat false) : St } s.line n.toNat (0)), trivial⟩ trivial 2 (rlockL []) (lockP ++ [sv 40, sv 41]) [(0, 0), (1, 3)]
              · by_cases h15 : ((s.wt) : Int) = (3)
                · exact ab ho
                · simp only [relS, if_pos h2, if_neg h3]
                  exact pth (dr s ([iv n, iv op] ++ b8 (upd s.sh n.toNat false) ++ n8 (upd s.ops n.toNat (0))) [olv 1 s.line, .v (pt 0 (2 + n.toNat)), .v (pt 0 (18 + n.toNat))] [encL s.line]) ⟨[kt .geq 3 (sv 40) (iv 0), kt .lss 3 (sv 40) (iv 8), kt .eql 3 (sv 1) (sv 40), kx 48 0 2 40 1, kx 30 0 18 40 2, kf .eql 3 (sv 0) (sv 40), kf .eql 3 (sv 29) (iv 1), kf .eql 3 (sv 29) (iv 2), kf .eql 3 (sv 29) (iv 3)], [], [([4, 1000001], eStR 1 (.bool false) 2 [] (p8 2 42) 1 0), ([2, 1000001], eStR 2 (iv 0) 2 (p8 2 42) (p8 2 42 ++ p8 18 50) 1 0)]⟩ [] ⟨qT (n ≥ 0), qT (n < 8), eT s.owner n, iA u48 z4 rfl rfl, iA u30 z2 rfl rfl, eF s.x n, eF s.wt 1, eF s.wt 2, eF s.wt 3, trivial⟩ trivial ⟨st (ssh s s.line n.toNat false), st (sops { s with sh := (upd s.sh n.toNat false) : St } s.line n.toNat (0)), trivial⟩ trivial 2 (rlockL []) (lockP ++ [sv 40, sv 41]) [(0, 0), (1, 3)]
        · by_cases h16 : ((s.x) : Int) = (n)
          · by_cases h17 : ((s.wt) : Int) = (1)
            · by_cases h18 : s.go n.toNat = true
              · exact ab ho
              · simp only [relS, if_neg h2, if_pos h16]
                exact pth (dr s ([iv n, iv op] ++ b8 (upd s.sh n.toNat false) ++ n8 (upd s.ops n.toNat (0)) ++ [.bool (s.go n.toNat)]) [olv 1 s.line, .v (pt 0 (2 + n.toNat)), .v (pt 0 (18 + n.toNat)), .v (pt 0 (30 + n.toNat))] [encL s.line]) ⟨[kt .geq 3 (sv 40) (iv 0), kt .lss 3 (sv 40) (iv 8), kf .eql 3 (sv 1) (sv 40), kx 48 0 2 40 1, kx 30 0 18 40 2, kt .eql 3 (sv 0) (sv 40), kt .eql 3 (sv 29) (iv 1), kx 48 0 30 40 3, tf 58, kf .eql 3 (sv 29) (iv 2), kf .eql 3 (sv 29) (iv 3)], [], [([4, 1000001], eStR 1 (.bool false) 2 [] (p8 2 42) 1 0), ([2, 1000001], eStR 2 (iv 0) 2 (p8 2 42) (p8 2 42 ++ p8 18 50) 1 0), ([4, 1000000], eLdR 3 2 [(0, iv (-1)), (2, sv 42), (3, sv 43), (4, sv 44), (5, sv 45), (6, sv 46), (7, sv 47), (8, sv 48), (9, sv 49), (18, sv 50), (19, sv 51), (20, sv 52), (21, sv 53), (22, sv 54), (23, sv 55), (24, sv 56), (25, sv 57)] 1 0 58)]⟩ [] ⟨qT (n ≥ 0), qT (n < 8), eF s.owner n, iA u48 z4 rfl rfl, iA u30 z2 rfl rfl, eT s.x n, eT s.wt 1, iA u48 z4 rfl rfl, tB (Bool.eq_false_iff.2 h18), eF s.wt 2, eF s.wt 3, trivial⟩ trivial ⟨st (ssh s s.line n.toNat false), st (sops { s with sh := (upd s.sh n.toNat false) : St } s.line n.toNat (0)), ld (lgo { s with x := (-1), sh := (upd s.sh n.toNat false), ops := (upd s.ops n.toNat (0)) : St } s.line n.toNat), trivial⟩ trivial 2 (rlockL []) (lockP ++ [sv 40, sv 41]) [(0, 0), (1, 3)]
            · by_cases h19 : ((s.wt) : Int) = (2)
              · by_cases h20 : ((s.su) : Int) = (n)
                · by_cases h21 : ((op) : Int) < (s.op)
                  · exact ab ho
                  · simp only [relS, if_neg h2, if_pos h16]
                    exact pth (dr s ([iv n, iv op] ++ b8 (upd s.sh n.toNat false) ++ n8 (upd s.ops n.toNat (0))) [olv 1 s.line, .v (pt 0 (2 + n.toNat)), .v (pt 0 (18 + n.toNat))] [encL s.line]) ⟨[kt .geq 3 (sv 40) (iv 0), kt .lss 3 (sv 40) (iv 8), kf .eql 3 (sv 1) (sv 40), kx 48 0 2 40 1, kx 30 0 18 40 2, kt .eql 3 (sv 0) (sv 40), kf .eql 3 (sv 29) (iv 1), kt .eql 3 (sv 29) (iv 2), kt .eql 3 (sv 38) (sv 40), kf .lss 2 (sv 41) (sv 39), kf .eql 3 (sv 29) (iv 3)], [], [([4, 1000001], eStR 1 (.bool false) 2 [] (p8 2 42) 1 0), ([2, 1000001], eStR 2 (iv 0) 2 (p8 2 42) (p8 2 42 ++ p8 18 50) 1 0)]⟩ [] ⟨qT (n ≥ 0), qT (n < 8), eF s.owner n, iA u48 z4 rfl rfl, iA u30 z2 rfl rfl, eT s.x n, eF s.wt 1, eT s.wt 2, eT s.su n, qF (op < s.op), eF s.wt 3, trivial⟩ trivial ⟨st (ssh s s.line n.toNat false), st (sops { s with sh := (upd s.sh n.toNat false) : St } s.line n.toNat (0)), trivial⟩ trivial 2 (rlockL []) (lockP ++ [sv 40, sv 41]) [(0, 0), (1, 3)]
                · simp only [relS, if_neg h2, if_pos h16]
                  exact pth (dr s ([iv n, iv op] ++ b8 (upd s.sh n.toNat false) ++ n8 (upd s.ops n.toNat (0))) [olv 1 s.line, .v (pt 0 (2 + n.toNat)), .v (pt 0 (18 + n.toNat))] [encL s.line]) ⟨[kt .geq 3 (sv 40) (iv 0), kt .lss 3 (sv 40) (iv 8), kf .eql 3 (sv 1) (sv 40), kx 48 0 2 40 1, kx 30 0 18 40 2, kt .eql 3 (sv 0) (sv 40), kf .eql 3 (sv 29) (iv 1), kt .eql 3 (sv 29) (iv 2), kf .eql 3 (sv 38) (sv 40), kf .eql 3 (sv 29) (iv 3)], [], [([4, 1000001], eStR 1 (.bool false) 2 [] (p8 2 42) 1 0), ([2, 1000001], eStR 2 (iv 0) 2 (p8 2 42) (p8 2 42 ++ p8 18 50) 1 0)]⟩ [] ⟨qT (n ≥ 0), qT (n < 8), eF s.owner n, iA u48 z4 rfl rfl, iA u30 z2 rfl rfl, eT s.x n, eF s.wt 1, eT s.wt 2, eF s.su n, eF s.wt 3, trivial⟩ trivial ⟨st (ssh s s.line n.toNat false), st (sops { s with sh := (upd s.sh n.toNat false) : St } s.line n.toNat (0)), trivial⟩ trivial 2 (rlockL []) (lockP ++ [sv 40, sv 41]) [(0, 0), (1, 3)]
              · by_cases h22 : ((s.wt) : Int) = (3)
                · simp only [relS, if_neg h2, if_pos h16]
                  exact pth (dr s ([iv n, iv op] ++ b8 (upd s.sh n.toNat false) ++ n8 (upd s.ops n.toNat (0))) [olv 1 s.line, .v (pt 0 (2 + n.toNat)), .v (pt 0 (18 + n.toNat))] [encL s.line]) ⟨[kt .geq 3 (sv 40) (iv 0), kt .lss 3 (sv 40) (iv 8), kf .eql 3 (sv 1) (sv 40), kx 48 0 2 40 1, kx 30 0 18 40 2, kt .eql 3 (sv 0) (sv 40), kf .eql 3 (sv 29) (iv 1), kf .eql 3 (sv 29) (iv 2), kt .eql 3 (sv 29) (iv 3)], [], [([4, 1000001], eStR 1 (.bool false) 2 [] (p8 2 42) 1 0), ([2, 1000001], eStR 2 (iv 0) 2 (p8 2 42) (p8 2 42 ++ p8 18 50) 1 0)]⟩ [] ⟨qT (n ≥ 0), qT (n < 8), eF s.owner n, iA u48 z4 rfl rfl, iA u30 z2 rfl rfl, eT s.x n, eF s.wt 1, eF s.wt 2, eT s.wt 3, trivial⟩ trivial ⟨st (ssh s s.line n.toNat false), st (sops { s with sh := (upd s.sh n.toNat false) : St } s.line n.toNat (0)), trivial⟩ trivial 2 (rlockL []) (lockP ++ [sv 40, sv 41]) [(0, 0), (1, 3)]
                · simp only [relS, if_neg h2, if_pos h16]
                  exact pth (dr s ([iv n, iv op] ++ b8 (upd s.sh n.toNat false) ++ n8 (upd s.ops n.toNat (0))) [olv 1 s.line, .v (pt 0 (2 + n.toNat)), .v (pt 0 (18 + n.toNat))] [encL s.line]) ⟨[kt .geq 3 (sv 40) (iv 0), kt .lss 3 (sv 40) (iv 8), kf .eql 3 (sv 1) (sv 40), kx 48 0 2 40 1, kx 30 0 18 40 2, kt .eql 3 (sv 0) (sv 40), kf .eql 3 (sv 29) (iv 1), kf .eql 3 (sv 29) (iv 2), kf .eql 3 (sv 29) (iv 3)], [], [([4, 1000001], eStR 1 (.bool false) 2 [] (p8 2 42) 1 0), ([2, 1000001], eStR 2 (iv 0) 2 (p8 2 42) (p8 2 42 ++ p8 18 50) 1 0)]⟩ [] ⟨qT (n ≥ 0), qT (n < 8), eF s.owner n, iA u48 z4 rfl rfl, iA u30 z2 rfl rfl, eT s.x n, eF s.wt 1, eF s.wt 2, eF s.wt 3, trivial⟩ trivial ⟨st (ssh s s.line n.toNat false), st (sops { s with sh := (upd s.sh n.toNat false) : St } s.line n.toNat (0)), trivial⟩ trivial 2 (rlockL []) (lockP ++ [sv 40, sv 41]) [(0, 0), (1, 3)]
          · by_cases h23 : ((s.wt) : Int) = (1)
            · by_cases h24 : s.go n.toNat = true
              · exact ab ho
              · simp only [relS, if_neg h2, if_neg h16]
                exact pth (dr s ([iv n, iv op] ++ b8 (upd s.sh n.toNat false) ++ n8 (upd s.ops n.toNat (0)) ++ [.bool (s.go n.toNat)]) [olv 1 s.line, .v (pt 0 (2 + n.toNat)), .v (pt 0 (18 + n.toNat)), .v (pt 0 (30 + n.toNat))] [encL s.line]) ⟨[kt .geq 3 (sv 40) (iv 0), kt .lss 3 (sv 40) (iv 8), kf .eql 3 (sv 1) (sv 40), kx 48 0 2 40 1, kx 30 0 18 40 2, kf .eql 3 (sv 0) (sv 40), kt .eql 3 (sv 29) (iv 1), kx 48 0 30 40 3, tf 58, kf .eql 3 (sv 29) (iv 2), kf .eql 3 (sv 29) (iv 3)], [], [([4, 1000001], eStR 1 (.bool false) 2 [] (p8 2 42) 1 0), ([2, 1000001], eStR 2 (iv 0) 2 (p8 2 42) (p8 2 42 ++ p8 18 50) 1 0), ([4, 1000000], eLdR 3 2 (p8 2 42 ++ p8 18 50) 1 0 58)]⟩ [] ⟨qT (n ≥ 0), qT (n < 8), eF s.owner n, iA u48 z4 rfl rfl, iA u30 z2 rfl rfl, eF s.x n, eT s.wt 1, iA u48 z4 rfl rfl, tB (Bool.eq_false_iff.2 h24), eF s.wt 2, eF s.wt 3, trivial⟩ trivial ⟨st (ssh s s.line n.toNat false), st (sops { s with sh := (upd s.sh n.toNat false) : St } s.line n.toNat (0)), ld (lgo { s with sh := (upd s.sh n.toNat false), ops := (upd s.ops n.toNat (0)) : St } s.line n.toNat), trivial⟩ trivial 2 (rlockL []) (lockP ++ [sv 40, sv 41]) [(0, 0), (1, 3)]
            · by_cases h25 : ((s.wt) : Int) = (2)
              · by_cases h26 : ((s.su) : Int) = (n)
                · by_cases h27 : ((op) : Int) < (s.op)
                  · exact ab ho
                  · simp only [relS, if_neg h2, if_neg h16]
                    exact pth (dr s ([iv n, iv op] ++ b8 (upd s.sh n.toNat false) ++ n8 (upd s.ops n.toNat (0))) [olv 1 s.line, .v (pt 0 (2 + n.toNat)), .v (pt 0 (18 + n.toNat))] [encL s.line]) ⟨[kt .geq 3 (sv 40) (iv 0), kt .lss 3 (sv 40) (iv 8), kf .eql 3 (sv 1) (sv 40), kx 48 0 2 40 1, kx 30 0 18 40 2, kf .eql 3 (sv 0) (sv 40), kf .eql 3 (sv 29) (iv 1), kt .eql 3 (sv 29) (iv 2), kt .eql 3 (sv 38) (sv 40), kf .lss 2 (sv 41) (sv 39), kf .eql 3 (sv 29) (iv 3)], [], [([4, 1000001], eStR 1 (.bool false) 2 [] (p8 2 42) 1 0), ([2, 1000001], eStR 2 (iv 0) 2 (p8 2 42) (p8 2 42 ++ p8 18 50) 1 0)]⟩ [] ⟨qT (n ≥ 0), qT (n < 8), eF s.owner n, iA u48 z4 rfl rfl, iA u30 z2 rfl rfl, eF s.x n, eF s.wt 1, eT s.wt 2, eT s.su n, qF (op < s.op), eF s.wt 3, trivial⟩ trivial ⟨st (ssh s s.line n.toNat false), st (sops { s with sh := (upd s.sh n.toNat false) : St } s.line n.toNat (0)), trivial⟩ trivial 2 (rlockL []) (lockP ++ [sv 40, sv 41]) [(0, 0), (1, 3)]
                · simp only [relS, if_neg h2, if_neg h16]
                  exact pth (dr s ([iv n, iv op] ++ b8 (upd s.sh n.toNat false) ++ n8 (upd s.ops n.toNat (0))) [olv 1 s.line, .v (pt 0 (2 + n.toNat)), .v (pt 0 (18 + n.toNat))] [encL s.line]) ⟨[kt .geq 3 (sv 40) (iv 0), kt .lss 3 (sv 40) (iv 8), kf .eql 3 (sv 1) (sv 40), kx 48 0 2 40 1, kx 30 0 18 40 2, kf .eql 3 (sv 0) (sv 40), kf .eql 3 (sv 29) (iv 1), kt .eql 3 (sv 29) (iv 2), kf .eql 3 (sv 38) (sv 40), kf .eql 3 (sv 29) (iv 3)], [], [([4, 1000001], eStR 1 (.bool false) 2 [] (p8 2 42) 1 0), ([2, 1000001], eStR 2 (iv 0) 2 (p8 2 42) (p8 2 42 ++ p8 18 50) 1 0)]⟩ [] ⟨qT (n ≥ 0), qT (n < 8), eF s.owner n, iA u48 z4 rfl rfl, iA u30 z2 rfl rfl, eF s.x n, eF s.wt 1, eT s.wt 2, eF s.su n, eF s.wt 3, trivial⟩ trivial ⟨st (ssh s s.line n.toNat false), st (sops { s with sh := (upd s.sh n.toNat false) : St } s.line n.toNat (0)), trivial⟩ trivial 2 (rlockL []) (lockP ++ [sv 40, sv 41]) [(0, 0), (1, 3)]
              · by_cases h28 : ((s.wt) : Int) = (3)
                · simp only [relS, if_neg h2, if_neg h16]
                  exact pth (dr s ([iv n, iv op] ++ b8 (upd s.sh n.toNat false) ++ n8 (upd s.ops n.toNat (0))) [olv 1 s.line, .v (pt 0 (2 + n.toNat)), .v (pt 0 (18 + n.toNat))] [encL s.line]) ⟨[kt .geq 3 (sv 40) (iv 0), kt .lss 3 (sv 40) (iv 8), kf .eql 3 (sv 1) (sv 40), kx 48 0 2 40 1, kx 30 0 18 40 2, kf .eql 3 (sv 0) (sv 40), kf .eql 3 (sv 29) (iv 1), kf .eql 3 (sv 29) (iv 2), kt .eql 3 (sv 29) (iv 3)], [], [([4, 1000001], eStR 1 (.bool false) 2 [] (p8 2 42) 1 0), ([2, 1000001], eStR 2 (iv 0) 2 (p8 2 42) (p8 2 42 ++ p8 18 50) 1 0)]⟩ [] ⟨qT (n ≥ 0), qT (n < 8), eF s.owner n, iA u48 z4 rfl rfl, iA u30 z2 rfl rfl, eF s.x n, eF s.wt 1, eF s.wt 2, eT s.wt 3, trivial⟩ trivial ⟨st (ssh s s.line n.toNat false), st (sops { s with sh := (upd s.sh n.toNat false) : St } s.line n.toNat (0)), trivial⟩ trivial 2 (rlockL []) (lockP ++ [sv 40, sv 41]) [(0, 0), (1, 3)]
                · simp only [relS, if_neg h2, if_neg h16]
                  exact pth (dr s ([iv n, iv op] ++ b8 (upd s.sh n.toNat false) ++ n8 (upd s.ops n.toNat (0))) [olv 1 s.line, .v (pt 0 (2 + n.toNat)), .v (pt 0 (18 + n.toNat))] [encL s.line]) ⟨[kt .geq 3 (sv 40) (iv 0), kt .lss 3 (sv 40) (iv 8), kf .eql 3 (sv 1) (sv 40), kx 48 0 2 40 1, kx 30 0 18 40 2, kf .eql 3 (sv 0) (sv 40), kf .eql 3 (sv 29) (iv 1), kf .eql 3 (sv 29) (iv 2), kf .eql 3 (sv 29) (iv 3)], [], [([4, 1000001], eStR 1 (.bool false) 2 [] (p8 2 42) 1 0), ([2, 1000001], eStR 2 (iv 0) 2 (p8 2 42) (p8 2 42 ++ p8 18 50) 1 0)]⟩ [] ⟨qT (n ≥ 0), qT (n < 8), eF s.owner n, iA u48 z4 rfl rfl, iA u30 z2 rfl rfl, eF s.x n, eF s.wt 1, eF s.wt 2, eF s.wt 3, trivial⟩ trivial ⟨st (ssh s s.line n.toNat false), st (sops { s with sh := (upd s.sh n.toNat false) : St } s.line n.toNat (0)), trivial⟩ trivial 2 (rlockL []) (lockP ++ [sv 40, sv 41]) [(0, 0), (1, 3)]
      · exact ab ho
    · exact ab ho
theorem relR_left {s t : St} {n op : Int} {o : List Ord} (_hop : 0 ≤ s.op ∧ s.op < 4611686018427387904) (ho : (0 ≤ n ∧ n < 8) ∧ s.wt = 1 ∧ s.go n.toNat = true) (h : RC 90 [.int .i64 n] (relS s n) t o) : RC 59 [.int .i64 n, .int .i64 op] s t o := by
  obtain ⟨cap, hcap, hN⟩ := h
  refine RC.mk (cap := cap) ?_
  · by_cases h0 : ((n) : Int) ≥ (0)
    · by_cases h1 : ((n) : Int) < (8)
      · by_cases h2 : ((s.owner) : Int) = (n)
        · by_cases h3 : ((s.x) : Int) = (n)
          · by_cases h4 : ((s.wt) : Int) = (1)
            · by_cases h5 : s.go n.toNat = true
              · simp only [relS, if_pos h2, if_pos h3] at hN
                exact pth (dr s ([iv n, iv op] ++ b8 (upd s.sh n.toNat false) ++ n8 (upd s.ops n.toNat (0)) ++ [.bool (s.go n.toNat)] ++ tv t) [olv 1 s.line, .v (pt 0 (2 + n.toNat)), .v (pt 0 (18 + n.toNat)), .v (pt 0 (30 + n.toNat)), olv 2 t.line, oord 3 cap o] [encL s.line, encL t.line, encOrds o]) ⟨[kt .geq 3 (sv 40) (iv 0), kt .lss 3 (sv 40) (iv 8), kt .eql 3 (sv 1) (sv 40), kx 48 0 2 40 1, kx 30 0 18 40 2, kt .eql 3 (sv 0) (sv 40), kt .eql 3 (sv 29) (iv 1), kx 48 0 30 40 3, tt 58], [], [([4, 1000001], eStR 1 (.bool false) 2 [] (p8 2 42) 1 0), ([2, 1000001], eStR 2 (iv 0) 2 (p8 2 42) (p8 2 42 ++ p8 18 50) 1 0), ([4, 1000000], eLdR 3 2 [(0, iv (-1)), (1, iv (-1)), (2, sv 42), (3, sv 43), (4, sv 44), (5, sv 45), (6, sv 46), (7, sv 47), (8, sv 48), (9, sv 49), (18, sv 50), (19, sv 51), (20, sv 52), (21, sv 53), (22, sv 54), (23, sv 55), (24, sv 56), (25, sv 57)] 1 0 58)]⟩ [(90, [eCR [pt 0 0, sv 40] 2 [(0, iv (-1)), (1, iv (-1)), (2, sv 42), (3, sv 43), (4, sv 44), (5, sv 45), (6, sv 46), (7, sv 47), (8, sv 48), (9, sv 49), (18, sv 50), (19, sv 51), (20, sv 52), (21, sv 53), (22, sv 54), (23, sv 55), (24, sv 56), (25, sv 57)] 59 4 1 0 1 2 (ch 5)])] ⟨qT (n ≥ 0), qT (n < 8), eT s.owner n, iA u48 z4 rfl rfl, iA u30 z2 rfl rfl, eT s.x n, eT s.wt 1, iA u48 z4 rfl rfl, tB h5, trivial⟩ trivial ⟨st (ssh s s.line n.toNat false), st (sops { s with sh := (upd s.sh n.toNat false) : St } s.line n.toNat (0)), ld (lgo { s with x := (-1), owner := (-1), sh := (upd s.sh n.toNat false), ops := (upd s.ops n.toNat (0)) : St } s.line n.toNat), trivial⟩ ⟨oe (toD hN), trivial⟩ 2 (rlockL []) (lockP ++ [sv 40, sv 41]) [(0, 0), (2, 3), (3, 2)]
              · exact ab ho
            · by_cases h6 : ((s.wt) : Int) = (2)
              · by_cases h7 : ((s.su) : Int) = (n)
                · by_cases h8 : ((op) : Int) < (s.op)
                  · exact ab ho
                  · exact ab ho
                · exact ab ho
              · by_cases h9 : ((s.wt) : Int) = (3)
                · exact ab ho
                · exact ab ho
          · by_cases h10 : ((s.wt) : Int) = (1)
            · by_cases h11 : s.go n.toNat = true
              · simp only [relS, if_pos h2, if_neg h3] at hN
                exact pth (dr s ([iv n, iv op] ++ b8 (upd s.sh n.toNat false) ++ n8 (upd s.ops n.toNat (0)) ++ [.bool (s.go n.toNat)] ++ tv t) [olv 1 s.line, .v (pt 0 (2 + n.toNat)), .v (pt 0 (18 + n.toNat)), .v (pt 0 (30 + n.toNat)), olv 2 t.line, oord 3 cap o] [encL s.line, encL t.line, encOrds o]) ⟨[kt .geq 3 (sv 40) (iv 0), kt .lss 3 (sv 40) (iv 8), kt .eql 3 (sv 1) (sv 40), kx 48 0 2 40 1, kx 30 0 18 40 2, kf .eql 3 (sv 0) (sv 40), kt .eql 3 (sv 29) (iv 1), kx 48 0 30 40 3, tt 58], [], [([4, 1000001], eStR 1 (.bool false) 2 [] (p8 2 42) 1 0), ([2, 1000001], eStR 2 (iv 0) 2 (p8 2 42) (p8 2 42 ++ p8 18 50) 1 0), ([4, 1000000], eLdR 3 2 [(1, iv (-1)), (2, sv 42), (3, sv 43), (4, sv 44), (5, sv 45), (6, sv 46), (7, sv 47), (8, sv 48), (9, sv 49), (18, sv 50), (19, sv 51), (20, sv 52), (21, sv 53), (22, sv 54), (23, sv 55), (24, sv 56), (25, sv 57)] 1 0 58)]⟩ [(90, [eCR [pt 0 0, sv 40] 2 [(1, iv (-1)), (2, sv 42), (3, sv 43), (4, sv 44), (5, sv 45), (6, sv 46), (7, sv 47), (8, sv 48), (9, sv 49), (18, sv 50), (19, sv 51), (20, sv 52), (21, sv 53), (22, sv 54), (23, sv 55), (24, sv 56), (25, sv 57)] 59 4 1 0 1 2 (ch 5)])] ⟨qT (n ≥ 0), qT (n < 8), eT s.owner n, iA u48 z4 rfl rfl, iA u30 z2 rfl rfl, eF s.x n, eT s.wt 1, iA u48 z4 rfl rfl, tB h11, trivial⟩ trivial ⟨st (ssh s s.line n.toNat false), st (sops { s with sh := (upd s.sh n.toNat false) : St } s.line n.toNat (0)), ld (lgo { s with owner := (-1), sh := (upd s.sh n.toNat false), ops := (upd s.ops n.toNat (0)) : St } s.line n.toNat), trivial⟩ ⟨oe (toD hN), trivial⟩ 2 (rlockL []) (lockP ++ [sv 40, sv 41]) [(0, 0), (2, 3), (3, 2)]
              · exact ab ho
            · by_cases h12 : ((s.wt) : Int) = (2)
              · by_cases h13 : ((s.su) : Int) = (n)
                · by_cases h14 : ((op) : Int) < (s.op)
                  · exact ab ho
                  · exact ab ho
                · exact ab ho
              · by_cases h15 : ((s.wt) : Int) = (3)
                · exact ab ho
                · exact ab ho
        · by_cases h16 : ((s.x) : Int) = (n)
          · by_cases h17 : ((s.wt) : Int) = (1)
            · by_cases h18 : s.go n.toNat = true
              · simp only [relS, if_neg h2, if_pos h16] at hN
                exact pth (dr s ([iv n, iv op] ++ b8 (upd s.sh n.toNat false) ++ n8 (upd s.ops n.toNat (0)) ++ [.bool (s.go n.toNat)] ++ tv t) [olv 1 s.line, .v (pt 0 (2 + n.toNat)), .v (pt 0 (18 + n.toNat)), .v (pt 0 (30 + n.toNat)), olv 2 t.line, oord 3 cap o] [encL s.line, encL t.line, encOrds o]) ⟨[kt .geq 3 (sv 40) (iv 0), kt .lss 3 (sv 40) (iv 8), kf .eql 3 (sv 1) (sv 40), kx 48 0 2 40 1, kx 30 0 18 40 2, kt .eql 3 (sv 0) (sv 40), kt .eql 3 (sv 29) (iv 1), kx 48 0 30 40 3, tt 58], [], [([4, 1000001], eStR 1 (.bool false) 2 [] (p8 2 42) 1 0), ([2, 1000001], eStR 2 (iv 0) 2 (p8 2 42) (p8 2 42 ++ p8 18 50) 1 0), ([4, 1000000], eLdR 3 2 [(0, iv (-1)), (2, sv 42), (3, sv 43), (4, sv 44), (5, sv 45), (6, sv 46), (7, sv 47), (8, sv 48), (9, sv 49), (18, sv 50), (19, sv 51), (20, sv 52), (21, sv 53), (22, sv 54), (23, sv 55), (24, sv 56), (25, sv 57)] 1 0 58)]⟩ [(90, [eCR [pt 0 0, sv 40] 2 [(0, iv (-1)), (2, sv 42), (3, sv 43), (4, sv 44), (5, sv 45), (6, sv 46), (7, sv 47), (8, sv 48), (9, sv 49), (18, sv 50), (19, sv 51), (20, sv 52), (21, sv 53), (22, sv 54), (23, sv 55), (24, sv 56), (25, sv 57)] 59 4 1 0 1 2 (ch 5)])] ⟨qT (n ≥ 0), qT (n < 8), eF s.owner n, iA u48 z4 rfl rfl, iA u30 z2 rfl rfl, eT s.x n, eT s.wt 1, iA u48 z4 rfl rfl, tB h18, trivial⟩ trivial ⟨st (ssh s s.line n.toNat false), st (sops { s with sh := (upd s.sh n.toNat false) : St } s.line n.toNat (0)), ld (lgo { s with x := (-1), sh := (upd s.sh n.toNat false), ops := (upd s.ops n.toNat (0)) : St } s.line n.toNat), trivial⟩ ⟨oe (toD hN), trivial⟩ 2 (rlockL []) (lockP ++ [sv 40, sv 41]) [(0, 0), (2, 3), (3, 2)]
              · exact ab ho
            · by_cases h19 : ((s.wt) : Int) = (2)
              · by_cases h20 : ((s.su) : Int) = (n)
                · by_cases h21 : ((op) : Int) < (s.op)
                  · exact ab ho
                  · exact ab ho
                · exact ab ho
              · by_cases h22 : ((s.wt) : Int) = (3)
                · exact ab ho
                · exact ab ho
          · by_cases h23 : ((s.wt) : Int) = (1)
            · by_cases h24 : s.go n.toNat = true
              · simp only [relS, if_neg h2, if_neg h16] at hN
                exact pth (dr s ([iv n, iv op] ++ b8 (upd s.sh n.toNat false) ++ n8 (upd s.ops n.toNat (0)) ++ [.bool (s.go n.toNat)] ++ tv t) [olv 1 s.line, .v (pt 0 (2 + n.toNat)), .v (pt 0 (18 + n.toNat)), .v (pt 0 (30 + n.toNat)), olv 2 t.line, oord 3 cap o] [encL s.line, encL t.line, encOrds o]) ⟨[kt .geq 3 (sv 40) (iv 0), kt .lss 3 (sv 40) (iv 8), kf .eql 3 (sv 1) (sv 40), kx 48 0 2 40 1, kx 30 0 18 40 2, kf .eql 3 (sv 0) (sv 40), kt .eql 3 (sv 29) (iv 1), kx 48 0 30 40 3, tt 58], [], [([4, 1000001], eStR 1 (.bool false) 2 [] (p8 2 42) 1 0), ([2, 1000001], eStR 2 (iv 0) 2 (p8 2 42) (p8 2 42 ++ p8 18 50) 1 0), ([4, 1000000], eLdR 3 2 (p8 2 42 ++ p8 18 50) 1 0 58)]⟩ [(90, [eCR [pt 0 0, sv 40] 2 (p8 2 42 ++ p8 18 50) 59 4 1 0 1 2 (ch 5)])] ⟨qT (n ≥ 0), qT (n < 8), eF s.owner n, iA u48 z4 rfl rfl, iA u30 z2 rfl rfl, eF s.x n, eT s.wt 1, iA u48 z4 rfl rfl, tB h24, trivial⟩ trivial ⟨st (ssh s s.line n.toNat false), st (sops { s with sh := (upd s.sh n.toNat false) : St } s.line n.toNat (0)), ld (lgo { s with sh := (upd s.sh n.toNat false), ops := (upd s.ops n.toNat (0)) : St } s.line n.toNat), trivial⟩ ⟨oe (toD hN), trivial⟩ 2 (rlockL []) (lockP ++ [sv 40, sv 41]) [(0, 0), (2, 3), (3, 2)]
              · exact ab ho
            · by_cases h25 : ((s.wt) : Int) = (2)
              · by_cases h26 : ((s.su) : Int) = (n)
                · by_cases h27 : ((op) : Int) < (s.op)
                  · exact ab ho
                  · exact ab ho
                · exact ab ho
              · by_cases h28 : ((s.wt) : Int) = (3)
                · exact ab ho
                · exact ab ho
      · exact ab ho
    · exact ab ho
theorem relR_beg {s t : St} {n op : Int} {o : List Ord} (hop : 0 ≤ s.op ∧ s.op < 4611686018427387904) (ho : (0 ≤ n ∧ n < 8) ∧ s.wt = 2 ∧ s.su = n ∧ op < s.op) (h : RC 91 [] { relS s n with op := s.op + 1 } t o) : RC 59 [.int .i64 n, .int .i64 op] s t o := by
  obtain ⟨cap, hcap, hN⟩ := h
  refine RC.mk (cap := cap) ?_
  · by_cases h0 : ((n) : Int) ≥ (0)
    · by_cases h1 : ((n) : Int) < (8)
      · by_cases h2 : ((s.owner) : Int) = (n)
        · by_cases h3 : ((s.x) : Int) = (n)
          · by_cases h4 : ((s.wt) : Int) = (1)
            · by_cases h5 : s.go n.toNat = true
              · exact ab ho
              · exact ab ho
            · by_cases h6 : ((s.wt) : Int) = (2)
              · by_cases h7 : ((s.su) : Int) = (n)
                · by_cases h8 : ((op) : Int) < (s.op)
                  · simp only [relS, if_pos h2, if_pos h3] at hN
                    exact pth (dr s ([iv n, iv op] ++ b8 (upd s.sh n.toNat false) ++ n8 (upd s.ops n.toNat (0)) ++ [iv ((s.op) + (1))] ++ tv t) [olv 1 s.line, .v (pt 0 (2 + n.toNat)), .v (pt 0 (18 + n.toNat)), olv 2 t.line, oord 3 cap o] [encL s.line, encL t.line, encOrds o]) ⟨[kt .geq 3 (sv 40) (iv 0), kt .lss 3 (sv 40) (iv 8), kt .eql 3 (sv 1) (sv 40), kx 48 0 2 40 1, kx 30 0 18 40 2, kt .eql 3 (sv 0) (sv 40), kf .eql 3 (sv 29) (iv 1), kt .eql 3 (sv 29) (iv 2), kt .eql 3 (sv 38) (sv 40), kt .lss 2 (sv 41) (sv 39), (.bin .add 2 (sv 39) (iv 1), sv 58)], [], [([4, 1000001], eStR 1 (.bool false) 2 [] (p8 2 42) 1 0), ([2, 1000001], eStR 2 (iv 0) 2 (p8 2 42) (p8 2 42 ++ p8 18 50) 1 0)]⟩ [(91, [eCR [pt 0 0] 2 [(0, iv (-1)), (1, iv (-1)), (2, sv 42), (3, sv 43), (4, sv 44), (5, sv 45), (6, sv 46), (7, sv 47), (8, sv 48), (9, sv 49), (18, sv 50), (19, sv 51), (20, sv 52), (21, sv 53), (22, sv 54), (23, sv 55), (24, sv 56), (25, sv 57), (39, sv 58)] 59 3 1 0 1 2 (ch 4)])] ⟨qT (n ≥ 0), qT (n < 8), eT s.owner n, iA u48 z4 rfl rfl, iA u30 z2 rfl rfl, eT s.x n, eF s.wt 1, eT s.wt 2, eT s.su n, qT (op < s.op), asP (u := iv ((s.op) + (1))) (Eq.trans (b := some (iv (IntKind.i64.wrap ((s.op) + (1))))) (by kernel_rfl) (by rw [wrap_id (by omega) (by omega)])) (by kernel_rfl), trivial⟩ trivial ⟨st (ssh s s.line n.toNat false), st (sops { s with sh := (upd s.sh n.toNat false) : St } s.line n.toNat (0)), trivial⟩ ⟨oe (toD hN), trivial⟩ 2 (rlockL []) (lockP ++ [sv 40, sv 41]) [(0, 0), (2, 3), (3, 2)]
                  · exact ab ho
                · exact ab ho
              · by_cases h9 : ((s.wt) : Int) = (3)
                · exact ab ho
                · exact ab ho
          · by_cases h10 : ((s.wt) : Int) = (1)
            · by_cases h11 : s.go n.toNat = true
              · exact ab ho
              · exact ab ho
            · by_cases h12 : ((s.wt) : Int) = (2)
              · by_cases h13 : ((s.su) : Int) = (n)
                · by_cases h14 : ((op) : Int) < (s.op)
                  · simp only [relS, if_pos h2, if_neg h3] at hN
                    exact pth (dr s ([iv n, iv op] ++ b8 (upd s.sh n.toNat false) ++ n8 (upd s.ops n.toNat (0)) ++ [iv ((s.op) + (1))] ++ tv t) [olv 1 s.line, .v (pt 0 (2 + n.toNat)), .v (pt 0 (18 + n.toNat)), olv 2 t.line, oord 3 cap o] [encL s.line, encL t.line, encOrds o]) ⟨[kt .geq 3 (sv 40) (iv 0), kt .lss 3 (sv 40) (iv 8), kt .eql 3 (sv 1) (sv 40), kx 48 0 2 40 1, kx 30 0 18 40 2, kf .eql 3 (sv 0) (sv 40), kf .eql 3 (sv 29) (iv 1), kt .eql 3 (sv 29) (iv 2), kt .eql 3 (sv 38) (sv 40), kt .lss 2 (sv 41) (sv 39), (.bin .add 2 (sv 39) (iv 1), sv 58)], [], [([4, 1000001], eStR 1 (.bool false) 2 [] (p8 2 42) 1 0), ([2, 1000001], eStR 2 (iv 0) 2 (p8 2 42) (p8 2 42 ++ p8 18 50) 1 0)]⟩ [(91, [eCR [pt 0 0] 2 [(1, iv (-1)), (2, sv 42), (3, sv 43), (4, sv 44), (5, sv 45), (6, sv 46), (7, sv 47), (8, sv 48), (9, sv 49), (18, sv 50), (19, sv 51), (20, sv 52), (21, sv 53), (22, sv 54), (23, sv 55), (24, sv 56), (25, sv 57), (39, sv 58)] 59 3 1 0 1 2 (ch 4)])] ⟨qT (n ≥ 0), qT (n < 8), eT s.owner n, iA u48 z4 rfl rfl, iA u30 z2 rfl rfl, eF s.x n, eF s.wt 1, eT s.wt 2, eT s.su n, qT (op < s.op), asP (u := iv ((s.op) + (1))) (Eq.trans (b := some (iv (IntKind.i64.wrap ((s.op) + (1))))) (by kernel_rfl) (by rw [wrap_id (by omega) (by omega)])) (by kernel_rfl), trivial⟩ trivial ⟨st (ssh s s.line n.toNat false), st (sops { s with sh := (upd s.sh n.toNat false) : St } s.line n.toNat (0)), trivial⟩ ⟨oe (toD hN), trivial⟩ 2 (rlockL []) (lockP ++ [sv 40, sv 41]) [(0, 0), (2, 3), (3, 2)]
                  · exact ab ho
                · exact ab ho
              · by_cases h15 : ((s.wt) : Int) = (3)
                · exact ab ho
                · exact ab ho
        · by_cases h16 : ((s.x) : Int) = (n)
          · by_cases h17 : ((s.wt) : Int) = (1)
            · by_cases h18 : s.go n.toNat = true
              · exact ab ho
              · exact ab ho
            · by_cases h19 : ((s.wt) : Int) = (2)
              · by_cases h20 : ((s.su) : Int) = (n)
                · by_cases h21 : ((op) : Int) < (s.op)
                  · simp only [relS, if_neg h2, if_pos h16] at hN
                    exact pth (dr s ([iv n, iv op] ++ b8 (upd s.sh n.toNat false) ++ n8 (upd s.ops n.toNat (0)) ++ [iv ((s.op) + (1))] ++ tv t) [olv 1 s.line, .v (pt 0 (2 + n.toNat)), .v (pt 0 (18 + n.toNat)), olv 2 t.line, oord 3 cap o] [encL s.line, encL t.line, encOrds o]) ⟨[kt .geq 3 (sv 40) (iv 0), kt .lss 3 (sv 40) (iv 8), kf .eql 3 (sv 1) (sv 40), kx 48 0 2 40 1, kx 30 0 18 40 2, kt .eql 3 (sv 0) (sv 40), kf .eql 3 (sv 29) (iv 1), kt .eql 3 (sv 29) (iv 2), kt .eql 3 (sv 38) (sv 40), kt .lss 2 (sv 41) (sv 39), (.bin .add 2 (sv 39) (iv 1), sv 58)], [], [([4, 1000001], eStR 1 (.bool false) 2 [] (p8 2 42) 1 0), ([2, 1000001], eStR 2 (iv 0) 2 (p8 2 42) (p8 2 42 ++ p8 18 50) 1 0)]⟩ [(91, [eCR [pt 0 0] 2 [(0, iv (-1)), (2, sv 42), (3, sv 43), (4, sv 44), (5, sv 45), (6, sv 46), (7, sv 47), (8, sv 48), (9, sv 49), (18, sv 50), (19, sv 51), (20, sv 52), (21, sv 53), (22, sv 54), (23, sv 55), (24, sv 56), (25, sv 57), (39, sv 58)] 59 3 1 0 1 2 (ch 4)])] ⟨qT (n ≥ 0), qT (n < 8), eF s.owner n, iA u48 z4 rfl rfl, iA u30 z2 rfl rfl, eT s.x n, eF s.wt 1, eT s.wt 2, eT s.su n, qT (op < s.op), asP (u := iv ((s.op) + (1))) (Eq.trans (b := some (iv (IntKind.i64.wrap ((s.op) + (1))))) (by kernel_rfl) (by rw [wrap_id (by omega) (by omega)])) (by kernel_rfl), trivial⟩ trivial ⟨st (ssh s s.line n.toNat false), st (sops { s with sh := (upd s.sh n.toNat false) : St } s.line n.toNat (0)), trivial⟩ ⟨oe (toD hN), trivial⟩ 2 (rlockL []) (lockP ++ [sv 40, sv 41]) [(0, 0), (2, 3), (3, 2)]
                  · exact ab ho
                · exact ab ho
              · by_cases h22 : ((s.wt) : Int) = (3)
                · exact ab ho
                · exact ab ho
          · by_cases h23 : ((s.wt) : Int) = (1)
            · by_cases h24 : s.go n.toNat = true
              · exact ab ho
              · exact ab ho
            · by_cases h25 : ((s.wt) : Int) = (2)
              · by_cases h26 : ((s.su) : Int) = (n)
                · by_cases h27 : ((op) : Int) < (s.op)
                  · simp only [relS, if_neg h2, if_neg h16] at hN
                    exact pth (dr s ([iv n, iv op] ++ b8 (upd s.sh n.toNat false) ++ n8 (upd s.ops n.toNat (0)) ++ [iv ((s.op) + (1))] ++ tv t) [olv 1 s.line, .v (pt 0 (2 + n.toNat)), .v (pt 0 (18 + n.toNat)), olv 2 t.line, oord 3 cap o] [encL s.line, encL t.line, encOrds o]) ⟨[kt .geq 3 (sv 40) (iv 0), kt .lss 3 (sv 40) (iv 8), kf .eql 3 (sv 1) (sv 40), kx 48 0 2 40 1, kx 30 0 18 40 2, kf .eql 3 (sv 0) (sv 40), kf .eql 3 (sv 29) (iv 1), kt .eql 3 (sv 29) (iv 2), kt .eql 3 (sv 38) (sv 40), kt .lss 2 (sv 41) (sv 39), (.bin .add 2 (sv 39) (iv 1), sv 58)], [], [([4, 1000001], eStR 1 (.bool false) 2 [] (p8 2 42) 1 0), ([2, 1000001], eStR 2 (iv 0) 2 (p8 2 42) (p8 2 42 ++ p8 18 50) 1 0)]⟩ [(91, [eCR [pt 0 0] 2 (p8 2 42 ++ p8 18 50 ++ [(39, sv 58)]) 59 3 1 0 1 2 (ch 4)])] ⟨qT (n ≥ 0), qT (n < 8), eF s.owner n, iA u48 z4 rfl rfl, iA u30 z2 rfl rfl, eF s.x n, eF s.wt 1, eT s.wt 2, eT s.su n, qT (op < s.op), asP (u := iv ((s.op) + (1))) (Eq.trans (b := some (iv (IntKind.i64.wrap ((s.op) + (1))))) (by kernel_rfl) (by rw [wrap_id (by omega) (by omega)])) (by kernel_rfl), trivial⟩ trivial ⟨st (ssh s s.line n.toNat false), st (sops { s with sh := (upd s.sh n.toNat false) : St } s.line n.toNat (0)), trivial⟩ ⟨oe (toD hN), trivial⟩ 2 (rlockL []) (lockP ++ [sv 40, sv 41]) [(0, 0), (2, 3), (3, 2)]
                  · exact ab ho
                · exact ab ho
              · by_cases h28 : ((s.wt) : Int) = (3)
                · exact ab ho
                · exact ab ho
      · exact ab ho
    · exact ab ho
theorem relR_need {s t : St} {n op : Int} {o : List Ord} (_hop : 0 ≤ s.op ∧ s.op < 4611686018427387904) (ho : (0 ≤ n ∧ n < 8) ∧ s.wt = 3 ∧ s.owner = n) (h : RC 92 [] (relS s n) t o) : RC 59 [.int .i64 n, .int .i64 op] s t o := by
  obtain ⟨cap, hcap, hN⟩ := h
  refine RC.mk (cap := cap) ?_
  · by_cases h0 : ((n) : Int) ≥ (0)
    · by_cases h1 : ((n) : Int) < (8)
      · by_cases h2 : ((s.owner) : Int) = (n)
        · by_cases h3 : ((s.x) : Int) = (n)
          · by_cases h4 : ((s.wt) : Int) = (1)
            · by_cases h5 : s.go n.toNat = true
              · exact ab ho
              · exact ab ho
            · by_cases h6 : ((s.wt) : Int) = (2)
              · by_cases h7 : ((s.su) : Int) = (n)
                · by_cases h8 : ((op) : Int) < (s.op)
                  · exact ab ho
                  · exact ab ho
                · exact ab ho
              · by_cases h9 : ((s.wt) : Int) = (3)
                · simp only [relS, if_pos h2, if_pos h3] at hN
                  exact pth (dr s ([iv n, iv op] ++ b8 (upd s.sh n.toNat false) ++ n8 (upd s.ops n.toNat (0)) ++ tv t) [olv 1 s.line, .v (pt 0 (2 + n.toNat)), .v (pt 0 (18 + n.toNat)), olv 2 t.line, oord 3 cap o] [encL s.line, encL t.line, encOrds o]) ⟨[kt .geq 3 (sv 40) (iv 0), kt .lss 3 (sv 40) (iv 8), kt .eql 3 (sv 1) (sv 40), kx 48 0 2 40 1, kx 30 0 18 40 2, kt .eql 3 (sv 0) (sv 40), kf .eql 3 (sv 29) (iv 1), kf .eql 3 (sv 29) (iv 2), kt .eql 3 (sv 29) (iv 3)], [], [([4, 1000001], eStR 1 (.bool false) 2 [] (p8 2 42) 1 0), ([2, 1000001], eStR 2 (iv 0) 2 (p8 2 42) (p8 2 42 ++ p8 18 50) 1 0)]⟩ [(92, [eCR [pt 0 0] 2 [(0, iv (-1)), (1, iv (-1)), (2, sv 42), (3, sv 43), (4, sv 44), (5, sv 45), (6, sv 46), (7, sv 47), (8, sv 48), (9, sv 49), (18, sv 50), (19, sv 51), (20, sv 52), (21, sv 53), (22, sv 54), (23, sv 55), (24, sv 56), (25, sv 57)] 58 3 1 0 1 2 (ch 4)])] ⟨qT (n ≥ 0), qT (n < 8), eT s.owner n, iA u48 z4 rfl rfl, iA u30 z2 rfl rfl, eT s.x n, eF s.wt 1, eF s.wt 2, eT s.wt 3, trivial⟩ trivial ⟨st (ssh s s.line n.toNat false), st (sops { s with sh := (upd s.sh n.toNat false) : St } s.line n.toNat (0)), trivial⟩ ⟨oe (toD hN), trivial⟩ 2 (rlockL []) (lockP ++ [sv 40, sv 41]) [(0, 0), (2, 3), (3, 2)]
                · exact ab ho
          · by_cases h10 : ((s.wt) : Int) = (1)
            · by_cases h11 : s.go n.toNat = true
              · exact ab ho
              · exact ab ho
            · by_cases h12 : ((s.wt) : Int) = (2)
              · by_cases h13 : ((s.su) : Int) = (n)
                · by_cases h14 : ((op) : Int) < (s.op)
                  · exact ab ho
                  · exact ab ho
                · exact ab ho
              · by_cases h15 : ((s.wt) : Int) = (3)
                · simp only [relS, if_pos h2, if_neg h3] at hN
                  exact pth (dr s ([iv n, iv op] ++ b8 (upd s.sh n.toNat false) ++ n8 (upd s.ops n.toNat (0)) ++ tv t) [olv 1 s.line, .v (pt 0 (2 + n.toNat)), .v (pt 0 (18 + n.toNat)), olv 2 t.line, oord 3 cap o] [encL s.line, encL t.line, encOrds o]) ⟨[kt .geq 3 (sv 40) (iv 0), kt .lss 3 (sv 40) (iv 8), kt .eql 3 (sv 1) (sv 40), kx 48 0 2 40 1, kx 30 0 18 40 2, kf .eql 3 (sv 0) (sv 40), kf .eql 3 (sv 29) (iv 1), kf .eql 3 (sv 29) (iv 2), kt .eql 3 (sv 29) (iv 3)], [], [([4, 1000001], eStR 1 (.bool false) 2 [] (p8 2 42) 1 0), ([2, 1000001], eStR 2 (iv 0) 2 (p8 2 42) (p8 2 42 ++ p8 18 50) 1 0)]⟩ [(92, [eCR [pt 0 0] 2 [(1, iv (-1)), (2, sv 42), (3, sv 43), (4, sv 44), (5, sv 45), (6, sv 46), (7, sv 47), (8, sv 48), (9, sv 49), (18, sv 50), (19, sv 51), (20, sv 52), (21, sv 53), (22, sv 54), (23, sv 55), (24, sv 56), (25, sv 57)] 58 3 1 0 1 2 (ch 4)])] ⟨qT (n ≥ 0), qT (n < 8), eT s.owner n, iA u48 z4 rfl rfl, iA u30 z2 rfl rfl, eF s.x n, eF s.wt 1, eF s.wt 2, eT s.wt 3, trivial⟩ trivial ⟨st (ssh s s.line n.toNat false), st (sops { s with sh := (upd s.sh n.toNat false) : St } s.line n.toNat (0)), trivial⟩ ⟨oe (toD hN), trivial⟩ 2 (rlockL []) (lockP ++ [sv 40, sv 41]) [(0, 0), (2, 3), (3, 2)]
                · exact ab ho
        · by_cases h16 : ((s.x) : Int) = (n)
          · by_cases h17 : ((s.wt) : Int) = (1)
            · by_cases h18 : s.go n.toNat = true
              · exact ab ho
              · exact ab ho
            · by_cases h19 : ((s.wt) : Int) = (2)
              · by_cases h20 : ((s.su) : Int) = (n)
                · by_cases h21 : ((op) : Int) < (s.op)
                  · exact ab ho
                  · exact ab ho
                · exact ab ho
              · by_cases h22 : ((s.wt) : Int) = (3)
                · exact ab ho
                · exact ab ho
          · by_cases h23 : ((s.wt) : Int) = (1)
            · by_cases h24 : s.go n.toNat = true
              · exact ab ho
              · exact ab ho
            · by_cases h25 : ((s.wt) : Int) = (2)
              · by_cases h26 : ((s.su) : Int) = (n)
                · by_cases h27 : ((op) : Int) < (s.op)
                  · exact ab ho
                  · exact ab ho
                · exact ab ho
              · by_cases h28 : ((s.wt) : Int) = (3)
                · exact ab ho
                · exact ab ho
      · exact ab ho
    · exact ab ho
def outW (s : St) (psn : Int) (i : Nat) (out : List Ord) : List Ord := if s.pa i = true then out ++ [⟨6, (i : Nat), 0, 0, 0, psn⟩] else out
noncomputable abbrev dWr (s : St) (n op psn : Int) (out : List Ord) (i : Nat) : Den := dr s [.int .i64 n, .int .i64 op, .int .i64 psn, .int .i64 (i : Nat)] [olv 1 s.line, oord 2 INF out] [encL s.line, encOrds out]
noncomputable def kWr : List KI := ((ksteps (@rec ⟨[], [], []⟩ Try.prog noTbl 100) 13 (startC Try.prog 60 [.pointer (some ⟨0, 0, none⟩), .int .i64 0, .int .i64 0, .int .i64 0] 2 (hl0 0))).map (·.k)).getD []
noncomputable def xWr : Cfg := headC kWr .normal [(0, .pointer (some ⟨0, 0, none⟩)), (1, sv 40), (2, sv 41), (3, sv 42), (9, .chan (some 1)), (10, sv 43)] 78 3 (rlockL [] ++ [(2, .mrow 45 1 false)])
def eAp0 (c : Nat) : Entry := { args := [.chan (some 1), .slice none 0 0], c := c, foots := [⟨2, 0, false, .mrow 45 1 false, .mrow 45 1 false⟩], news := [], res := .chan (some 1) }
def eApS (r c id j j' k' : Nat) : Entry := { args := [.chan (some 1), .chan (some r)], c := c, foots := [⟨2, 0, false, .mrow 45 1 false, .dead⟩, ⟨id, 1, true, .mrow 45 j false, .dead⟩], news := [(2, .mrow 45 j' false)], res := .chan (some k') }
theorem AppC.same {P : Program} {ats : List TypeId} {args : List Value} {A : HL} {v : Value} {c c' : Nat} (hrun : Run (appendA P ats args) c (ofL A) v c' (ofL A)) : AppC P ats args A v A := by
  intro w F E args' ty at' hr hl hat
  obtain ⟨L, hrun⟩ := hrun
  subst hat
  obtain ⟨v', w', E', k1, k2, k3, k4⟩ := @append_sound P w F E (ofL A) w den0 at' ty args args' _ c c' (ofL A) L hrun hr hl
  exact ⟨v', w', E', k1, fun i x hi _ => k2 _ _ hi, k3, k4⟩
theorem app_oNone (l : List Ord) : AppC Try.prog [28, 28] [ordR 0 INF l, .slice none 0 0] [(0, outO l)] (ordR 0 INF l) [(0, outO l)] := by
  refine AppC.same (c := 0) (c' := 0) ?_
  unfold appendA ordR mSl
  exact Run.bind (Run.opt elemO.el) (Run.bind (Run.opt elemO.sz) (Run.bind (Run.opt elemO.by') (Run.bind (Run.opt elemO.ze) (Run.bind (Run.guard elemO.ok) (Run.bind (Run.opt rfl) Run.pure)))))
theorem app_oMany (bl : List Ord) (x : Ord) (l : List Ord) (cp : Nat) (hb : bl.length < 9) (hl : (x :: l).length < 1000000) : AppC Try.prog [28, 28] [ordR 0 INF bl, .slice (some ⟨1, 0, none⟩) (x :: l).length cp] [(0, outO bl), (1, .row 45 (.lst (encOrds (x :: l))) true)] (ordR 2 INF (bl ++ x :: l)) [(0, .dead), (2, outO (bl ++ x :: l))] := by
  cases bl with
  | nil =>
    have h := app_nilG (P := Try.prog) elemO (outO []) (l := encOrds (x :: l)) (m := (x :: l).length) (off := 0) (cp := cp) (T := 45) (by simp) (by rw [encOrds_len]; omega) (encOrds_plain _) (by omega) (by unfold HALF; omega)
    have e : ((encOrds (x :: l)).drop 0).take ((x :: l).length * 6) = encOrds (x :: l) := by rw [List.drop_zero, List.take_of_length_le (by rw [encOrds_len]; omega)]
    rw [e] at h
    exact h
  | cons y r => exact app_ords_inf (y :: r) x l cp hb hl
theorem wroteStep (s : St) (n op psn : Int) (out : List Ord) (i : Nat) (hi : i < 8) (hlen : out.length < 1000) (A B : HL) (res : Value) (h : GoodS (dWr s n op psn (outW s psn i out) (i + 1)) Try.prog 60 A res B [0] xWr) : GoodS (dWr s n op psn out i) Try.prog 60 A res B [0] xWr := by
  · by_cases h0 : s.pa i = true
    · simp only [outW, h0, if_true] at h
      exact gS (dr s [iv n, iv op, iv psn, iv (i : Nat), .bool (s.pa i), iv ((i + 1 : Nat) : Int)] [olv 1 s.line, oord 2 INF out, .v (pt 0 (10 + i)), oord 4 INF (out ++ [⟨(6), ((i : Nat)), (0), (0), (0), (psn)⟩])] [encL s.line, encOrds out, encOrds (out ++ [⟨(6), ((i : Nat)), (0), (0), (0), (psn)⟩])]) _ ⟨[kt .lss 3 (sv 43) (iv 8), kx 48 0 10 43 2, tt 44, (.bin .add 3 (sv 43) (iv 1), sv 45)], [], [([4, 1000000], eLdR 2 3 [] 1 0 44), ([28, 28], eApO 1 3 4 2 1 [iv 6, sv 43, iv 0, iv 0, iv 0, sv 42] 2 3)]⟩ [] ⟨qT ((i : Int) < 8), iA u48 z4 rfl rfl, tB h0, asP (u := iv ((i + 1 : Nat) : Int)) (Eq.trans (b := some (iv (IntKind.i64.wrap ((i : Int) + 1)))) (by kernel_rfl) (by rw [wrap_id (by omega) (by omega)]; rfl)) (by kernel_rfl), trivial⟩ trivial ⟨ld (lpa s s.line i), ap (app_oR out ⟨(6), ((i : Nat)), (0), (0), (0), (psn)⟩ 1 (by omega)), trivial⟩ trivial 12 [(0, 0), (1, 1), (4, 2)] h
    · simp only [outW, h0, if_false, Bool.false_eq_true] at h
      exact gS (dr s [iv n, iv op, iv psn, iv (i : Nat), .bool (s.pa i), iv ((i + 1 : Nat) : Int)] [olv 1 s.line, oord 2 INF out, .v (pt 0 (10 + i))] [encL s.line, encOrds out]) _ ⟨[kt .lss 3 (sv 43) (iv 8), kx 48 0 10 43 2, tf 44, (.bin .add 3 (sv 43) (iv 1), sv 45)], [], [([4, 1000000], eLdR 2 3 [] 1 0 44)]⟩ [] ⟨qT ((i : Int) < 8), iA u48 z4 rfl rfl, tB (Bool.eq_false_iff.2 h0), asP (u := iv ((i + 1 : Nat) : Int)) (Eq.trans (b := some (iv (IntKind.i64.wrap ((i : Int) + 1)))) (by kernel_rfl) (by rw [wrap_id (by omega) (by omega)]; rfl)) (by kernel_rfl), trivial⟩ trivial ⟨ld (lpa s s.line i), trivial⟩ trivial 12 [(0, 0), (1, 1), (2, 2)] h
theorem wroteEndT (s0 s : St) (n op psn : Int) (out : List Ord) (ho : (0 ≤ n ∧ n < 8) ∧ ¬ (s.owner = n ∧ s.ops n.toNat = op ∧ s.wt = 3)) : GoodS (dWr s n op psn out 8) Try.prog 60 (rlock 1 s0) (ordR 2 INF out) (rlockB (wroteT s n op) out) [0] xWr := by
  · by_cases h0 : ((s.owner) : Int) = (n)
    · by_cases h1 : ((s.ops n.toNat) : Int) = (op)
      · by_cases h2 : ((s.x) : Int) = (n)
        · by_cases h3 : ((s.wt) : Int) = (3)
          · exact ab ho
          · simp only [wroteT, wroteS, if_pos h0, if_pos h1, if_pos h2]
            exact gF (dr s [iv n, iv op, iv psn, iv (8 : Nat), iv (s.ops n.toNat)] [olv 1 s.line, oord 2 INF out, .v (pt 0 (18 + n.toNat))] [encL s.line, encOrds out]) ⟨[kf .lss 3 (sv 43) (iv 8), kf .neq 3 (sv 1) (sv 40), kx 30 0 18 40 2, kf .neq 2 (sv 44) (sv 41), kf .neq 3 (sv 0) (sv 40), kf .eql 3 (sv 29) (iv 3)], [], [([2, 1000000], eLdR 2 3 [] 1 0 44)]⟩ [] ⟨qF (((8 : Nat) : Int) < 8), nF s.owner n, iA u30 z2 rfl rfl, nF ((s.ops n.toNat) : Int) op, nF s.x n, eF s.wt 3, trivial⟩ trivial ⟨ld (lops s s.line n.toNat), trivial⟩ trivial 24 [(0, 0), (1, 3), (2, 2)]
        · by_cases h4 : ((s.wt) : Int) = (3)
          · exact ab ho
          · simp only [wroteT, wroteS, if_pos h0, if_pos h1, if_neg h2]
            exact gF (dr s [iv n, iv op, iv psn, iv (8 : Nat), iv (s.ops n.toNat)] [olv 1 s.line, oord 2 INF out, .v (pt 0 (18 + n.toNat))] [encL s.line, encOrds out]) ⟨[kf .lss 3 (sv 43) (iv 8), kf .neq 3 (sv 1) (sv 40), kx 30 0 18 40 2, kf .neq 2 (sv 44) (sv 41), kt .neq 3 (sv 0) (sv 40), kf .eql 3 (sv 29) (iv 3)], [], [([2, 1000000], eLdR 2 3 [] 1 0 44)]⟩ [] ⟨qF (((8 : Nat) : Int) < 8), nF s.owner n, iA u30 z2 rfl rfl, nF ((s.ops n.toNat) : Int) op, nT s.x n, eF s.wt 3, trivial⟩ trivial ⟨ld (lops s s.line n.toNat), trivial⟩ trivial 24 [(0, 0), (1, 3), (2, 2)]
      · simp only [wroteT, wroteS, if_pos h0, if_neg h1]
        exact gF (dr s [iv n, iv op, iv psn, iv (8 : Nat), iv (s.ops n.toNat)] [olv 1 s.line, oord 2 INF out, .v (pt 0 (18 + n.toNat))] [encL s.line, encOrds out]) ⟨[kf .lss 3 (sv 43) (iv 8), kf .neq 3 (sv 1) (sv 40), kx 30 0 18 40 2, kt .neq 2 (sv 44) (sv 41)], [], [([2, 1000000], eLdR 2 3 [] 1 0 44)]⟩ [] ⟨qF (((8 : Nat) : Int) < 8), nF s.owner n, iA u30 z2 rfl rfl, nT ((s.ops n.toNat) : Int) op, trivial⟩ trivial ⟨ld (lops s s.line n.toNat), trivial⟩ trivial 12 [(0, 0), (1, 3), (2, 2)]
    · simp only [wroteT, wroteS, if_neg h0]
      exact gF (dr s [iv n, iv op, iv psn, iv (8 : Nat)] [olv 1 s.line, oord 2 INF out] [encL s.line, encOrds out]) ⟨[kf .lss 3 (sv 43) (iv 8), kt .neq 3 (sv 1) (sv 40)], [], []⟩ [] ⟨qF (((8 : Nat) : Int) < 8), nT s.owner n, trivial⟩ trivial trivial trivial 12 [(0, 0), (1, 3), (2, 2)]
theorem wroteEndW (s0 : St) {s t : St} {n op psn : Int} {out o : List Ord} {cap : Nat} (hb : out.length < 9) (hlen : o.length < 1000000) (ho : (0 ≤ n ∧ n < 8) ∧ s.owner = n ∧ s.ops n.toNat = op ∧ s.wt = 3) (hN : Ctr Try.prog 89 (lockP ++ []) (rlock 1 (wroteS s n)) (ordR 2 cap o) (rlockB t o)) : GoodS (dWr s n op psn out 8) Try.prog 60 (rlock 1 s0) (ordR 2 INF (out ++ o)) (rlockB t (out ++ o)) [0] xWr := by
  cases o with
  | nil =>
    rw [List.append_nil]
    · by_cases h0 : ((s.owner) : Int) = (n)
      · by_cases h1 : ((s.ops n.toNat) : Int) = (op)
        · by_cases h2 : ((s.x) : Int) = (n)
          · by_cases h3 : ((s.wt) : Int) = (3)
            · simp only [wroteS, if_pos h2] at hN
              exact gF (dr s ([iv n, iv op, iv psn, iv (8 : Nat), iv (s.ops n.toNat)] ++ tv t) [olv 1 s.line, oord 2 INF out, .v (pt 0 (18 + n.toNat)), olv 3 t.line, oord 4 cap ([] : List Ord)] [encL s.line, encOrds out, encL t.line, encOrds ([] : List Ord)]) ⟨[kf .lss 3 (sv 43) (iv 8), kf .neq 3 (sv 1) (sv 40), kx 30 0 18 40 2, kf .neq 2 (sv 44) (sv 41), kf .neq 3 (sv 0) (sv 40), kt .eql 3 (sv 29) (iv 3)], [], [([2, 1000000], eLdR 2 3 [] 1 0 44), ([28, 28], eAp0 5)]⟩ [(89, [eCR [pt 0 0] 3 [(10, .bool false), (11, .bool false), (12, .bool false), (13, .bool false), (14, .bool false), (15, .bool false), (16, .bool false), (17, .bool false)] 45 3 1 0 2 3 (.slice none 0 0)])] ⟨qF (((8 : Nat) : Int) < 8), nF s.owner n, iA u30 z2 rfl rfl, nF ((s.ops n.toNat) : Int) op, nF s.x n, eT s.wt 3, trivial⟩ trivial ⟨ld (lops s s.line n.toNat), ap (app_oNone out), trivial⟩ ⟨oe (toD hN), trivial⟩ 24 [(0, 0), (3, 3), (2, 2)]
            · exact ab ho
          · by_cases h4 : ((s.wt) : Int) = (3)
            · simp only [wroteS, if_neg h2] at hN
              exact gF (dr s ([iv n, iv op, iv psn, iv (8 : Nat), iv (s.ops n.toNat)] ++ tv t) [olv 1 s.line, oord 2 INF out, .v (pt 0 (18 + n.toNat)), olv 3 t.line, oord 4 cap ([] : List Ord)] [encL s.line, encOrds out, encL t.line, encOrds ([] : List Ord)]) ⟨[kf .lss 3 (sv 43) (iv 8), kf .neq 3 (sv 1) (sv 40), kx 30 0 18 40 2, kf .neq 2 (sv 44) (sv 41), kt .neq 3 (sv 0) (sv 40), kt .eql 3 (sv 29) (iv 3)], [], [([2, 1000000], eLdR 2 3 [] 1 0 44), ([28, 28], eAp0 5)]⟩ [(89, [eCR [pt 0 0] 3 [(1, iv (-1)), (10, .bool false), (11, .bool false), (12, .bool false), (13, .bool false), (14, .bool false), (15, .bool false), (16, .bool false), (17, .bool false)] 45 3 1 0 2 3 (.slice none 0 0)])] ⟨qF (((8 : Nat) : Int) < 8), nF s.owner n, iA u30 z2 rfl rfl, nF ((s.ops n.toNat) : Int) op, nT s.x n, eT s.wt 3, trivial⟩ trivial ⟨ld (lops s s.line n.toNat), ap (app_oNone out), trivial⟩ ⟨oe (toD hN), trivial⟩ 24 [(0, 0), (3, 3), (2, 2)]
            · exact ab ho
        · exact ab ho
      · exact ab ho
  | cons x l =>
    · by_cases h0 : ((s.owner) : Int) = (n)
      · by_cases h1 : ((s.ops n.toNat) : Int) = (op)
        · by_cases h2 : ((s.x) : Int) = (n)
          · by_cases h3 : ((s.wt) : Int) = (3)
            · simp only [wroteS, if_pos h2] at hN
              exact gF (dr s ([iv n, iv op, iv psn, iv (8 : Nat), iv (s.ops n.toNat)] ++ tv t) [olv 1 s.line, oord 2 INF out, .v (pt 0 (18 + n.toNat)), olv 3 t.line, .v (.slice (some ⟨4, 0, none⟩) (x :: l).length cap), oord 5 INF (out ++ x :: l)] [encL s.line, encOrds out, encL t.line, encOrds (x :: l), encOrds (out ++ x :: l)]) ⟨[kf .lss 3 (sv 43) (iv 8), kf .neq 3 (sv 1) (sv 40), kx 30 0 18 40 2, kf .neq 2 (sv 44) (sv 41), kf .neq 3 (sv 0) (sv 40), kt .eql 3 (sv 29) (iv 3)], [], [([2, 1000000], eLdR 2 3 [] 1 0 44), ([28, 28], eApS 4 5 4 3 4 5)]⟩ [(89, [eCR [pt 0 0] 3 [(10, .bool false), (11, .bool false), (12, .bool false), (13, .bool false), (14, .bool false), (15, .bool false), (16, .bool false), (17, .bool false)] 45 3 1 0 2 3 (ch 4)])] ⟨qF (((8 : Nat) : Int) < 8), nF s.owner n, iA u30 z2 rfl rfl, nF ((s.ops n.toNat) : Int) op, nF s.x n, eT s.wt 3, trivial⟩ trivial ⟨ld (lops s s.line n.toNat), ap (app_oMany out x l cap (by omega) hlen), trivial⟩ ⟨oe (toD hN), trivial⟩ 24 [(0, 0), (3, 3), (5, 2)]
            · exact ab ho
          · by_cases h4 : ((s.wt) : Int) = (3)
            · simp only [wroteS, if_neg h2] at hN
              exact gF (dr s ([iv n, iv op, iv psn, iv (8 : Nat), iv (s.ops n.toNat)] ++ tv t) [olv 1 s.line, oord 2 INF out, .v (pt 0 (18 + n.toNat)), olv 3 t.line, .v (.slice (some ⟨4, 0, none⟩) (x :: l).length cap), oord 5 INF (out ++ x :: l)] [encL s.line, encOrds out, encL t.line, encOrds (x :: l), encOrds (out ++ x :: l)]) ⟨[kf .lss 3 (sv 43) (iv 8), kf .neq 3 (sv 1) (sv 40), kx 30 0 18 40 2, kf .neq 2 (sv 44) (sv 41), kt .neq 3 (sv 0) (sv 40), kt .eql 3 (sv 29) (iv 3)], [], [([2, 1000000], eLdR 2 3 [] 1 0 44), ([28, 28], eApS 4 5 4 3 4 5)]⟩ [(89, [eCR [pt 0 0] 3 [(1, iv (-1)), (10, .bool false), (11, .bool false), (12, .bool false), (13, .bool false), (14, .bool false), (15, .bool false), (16, .bool false), (17, .bool false)] 45 3 1 0 2 3 (ch 4)])] ⟨qF (((8 : Nat) : Int) < 8), nF s.owner n, iA u30 z2 rfl rfl, nF ((s.ops n.toNat) : Int) op, nT s.x n, eT s.wt 3, trivial⟩ trivial ⟨ld (lops s s.line n.toNat), ap (app_oMany out x l cap (by omega) hlen), trivial⟩ ⟨oe (toD hN), trivial⟩ 24 [(0, 0), (3, 3), (5, 2)]
            · exact ab ho
        · exact ab ho
      · exact ab ho
theorem wroteR_out {s : St} {n op psn : Int} (ho : ¬ ((0 ≤ n ∧ n < 8) ∧ 0 ≤ psn ∧ psn ≤ 2147483647)) : RC 60 [.int .i64 n, .int .i64 op, .int .i64 psn] s s [] := by
  refine RC.mkN ?_
  · by_cases h0 : ((n) : Int) ≥ (0)
    · by_cases h1 : ((n) : Int) < (8)
      · by_cases h2 : ((psn) : Int) < (0)
        · refine Ctr.of_goodS (d := (dr s [iv n, iv op, iv psn] [olv 1 s.line] [encL s.line])) [0] (c0 := 2) (A0 := rlockL []) (args0 := lockP ++ [sv 40, sv 41, sv 42]) (by kernel_rfl) (by kernel_rfl) (by kernel_rfl) ?_
          exact @goodS_fin (dr s [iv n, iv op, iv psn] [olv 1 s.line] [encL s.line]) Try.prog mixed ⟨[kt .geq 3 (sv 40) (iv 0), kt .lss 3 (sv 40) (iv 8), kt .lss 2 (sv 42) (iv 0)], [], []⟩ [] ⟨qT (n ≥ 0), qT (n < 8), qT (psn < 0), trivial⟩ trivial trivial trivial 100 7 60 _ _ _ _ _ [(0, 0), (1, 3)] [] (by kernel_rfl) (by kernel_rfl)
        · by_cases h3 : ((psn) : Int) > (2147483647)
          · refine Ctr.of_goodS (d := (dr s [iv n, iv op, iv psn] [olv 1 s.line] [encL s.line])) [0] (c0 := 2) (A0 := rlockL []) (args0 := lockP ++ [sv 40, sv 41, sv 42]) (by kernel_rfl) (by kernel_rfl) (by kernel_rfl) ?_
            exact @goodS_fin (dr s [iv n, iv op, iv psn] [olv 1 s.line] [encL s.line]) Try.prog mixed ⟨[kt .geq 3 (sv 40) (iv 0), kt .lss 3 (sv 40) (iv 8), kf .lss 2 (sv 42) (iv 0), kt .gtr 2 (sv 42) (iv 2147483647)], [], []⟩ [] ⟨qT (n ≥ 0), qT (n < 8), qF (psn < 0), qT (psn > 2147483647), trivial⟩ trivial trivial trivial 100 7 60 _ _ _ _ _ [(0, 0), (1, 3)] [] (by kernel_rfl) (by kernel_rfl)
          · exact absurd ho (by omega)
      · refine Ctr.of_goodS (d := (dr s [iv n, iv op, iv psn] [olv 1 s.line] [encL s.line])) [0] (c0 := 2) (A0 := rlockL []) (args0 := lockP ++ [sv 40, sv 41, sv 42]) (by kernel_rfl) (by kernel_rfl) (by kernel_rfl) ?_
        exact @goodS_fin (dr s [iv n, iv op, iv psn] [olv 1 s.line] [encL s.line]) Try.prog mixed ⟨[kt .geq 3 (sv 40) (iv 0), kf .lss 3 (sv 40) (iv 8)], [], []⟩ [] ⟨qT (n ≥ 0), qF (n < 8), trivial⟩ trivial trivial trivial 100 7 60 _ _ _ _ _ [(0, 0), (1, 3)] [] (by kernel_rfl) (by kernel_rfl)
    · refine Ctr.of_goodS (d := (dr s [iv n, iv op, iv psn] [olv 1 s.line] [encL s.line])) [0] (c0 := 2) (A0 := rlockL []) (args0 := lockP ++ [sv 40, sv 41, sv 42]) (by kernel_rfl) (by kernel_rfl) (by kernel_rfl) ?_
      exact @goodS_fin (dr s [iv n, iv op, iv psn] [olv 1 s.line] [encL s.line]) Try.prog mixed ⟨[kf .geq 3 (sv 40) (iv 0)], [], []⟩ [] ⟨qF (n ≥ 0), trivial⟩ trivial trivial trivial 100 7 60 _ _ _ _ _ [(0, 0), (1, 3)] [] (by kernel_rfl) (by kernel_rfl)
theorem wroteR_head {s : St} {n op psn : Int} {res : Value} {B : HL} (ho : (0 ≤ n ∧ n < 8) ∧ 0 ≤ psn ∧ psn ≤ 2147483647) (h : GoodS (dWr s n op psn [] 0) Try.prog 60 (rlock 1 s) res B [0] xWr) : Ctr Try.prog 60 (lockP ++ [.int .i64 n, .int .i64 op, .int .i64 psn]) (rlock 1 s) res B := by
  have hL : GoodS (dWr s n op psn [] 0) Try.prog 60 (rlock 1 s) res B [0] (headC kWr .normal [(0, .pointer (some ⟨0, 0, none⟩)), (1, sv 40), (2, sv 41), (3, sv 42), (9, .slice none 0 0), (10, .int .i64 0)] 78 2 (rlockL [])) :=
    goodS_ghost (c' := 3) 2 1 45 false rfl rfl (@goodS_seg (dWr s n op psn [] 0) (dWr s n op psn [] 0) Try.prog mixed ⟨[], [], []⟩ [] trivial trivial trivial trivial 100 0 60 _ _ _ _ _ [(0, 0), (1, 1), (2, 2)] [] _ _ _ _ _ _ (by kernel_rfl) (by kernel_rfl) (by kernel_rfl) h)
  · refine Ctr.of_goodS (d := (dr s [iv n, iv op, iv psn] [olv 1 s.line] [encL s.line])) [0] (c0 := 2) (A0 := rlockL []) (args0 := lockP ++ [sv 40, sv 41, sv 42]) (by kernel_rfl) (by kernel_rfl) (by kernel_rfl) ?_
    exact @goodS_seg (dr s [iv n, iv op, iv psn] [olv 1 s.line] [encL s.line]) (dWr s n op psn [] 0) Try.prog mixed ⟨[kt .geq 3 (sv 40) (iv 0), kt .lss 3 (sv 40) (iv 8), kf .lss 2 (sv 42) (iv 0), kf .gtr 2 (sv 42) (iv 2147483647)], [], []⟩ [] ⟨qT (n ≥ 0), qT (n < 8), qF (psn < 0), qF (psn > 2147483647), trivial⟩ trivial trivial trivial 100 13 60 _ _ _ _ _ [(0, 0), (1, 1)] [] kWr .normal [(0, pt 0 0), (1, sv 40), (2, sv 41), (3, sv 42), (9, .slice none 0 0), (10, iv 0)] 78 2 (rlockL []) (by kernel_rfl) (by kernel_rfl) (by kernel_rfl) hL
theorem discs_app (psn : Int) (l m : List Int) : discs psn (l ++ m) = discs psn l ++ discs psn m := by unfold discs; rw [List.map_append]
theorem wroteLoop (s : St) (n op psn : Int) (A B : HL) (res : Value) : ∀ (k i : Nat) (out : List Ord), i + k = 8 → out.length ≤ i → out = discs psn (listTo s.pa i) → GoodS (dWr s n op psn (discs psn (listTo s.pa 8)) 8) Try.prog 60 A res B [0] xWr → GoodS (dWr s n op psn out i) Try.prog 60 A res B [0] xWr
  | 0, i, out, hi, _, ho, h => by
    have : i = 8 := by omega
    subst this; rw [ho]; exact h
  | k + 1, i, out, hi, hl, ho, h => by
    refine wroteStep s n op psn out i (by omega) (by omega) A B res (wroteLoop s n op psn A B res k (i + 1) (outW s psn i out) (by omega) ?_ ?_ h)
    · unfold outW; split
      · simp; omega
      · omega
    · subst ho
      unfold outW
      simp only [listTo]
      split
      · rw [discs_app]; rfl
      · rfl
theorem discs_le (psn : Int) (f : Nat → Bool) : ∀ k, (discs psn (listTo f k)).length ≤ k
  | 0 => Nat.le_refl _
  | k + 1 => by
    have := discs_le psn f k
    simp only [listTo]
    split
    · rw [discs_app, List.length_append]; show _ + 1 ≤ _; omega
    · omega
theorem wroteR_t {s : St} {n op psn : Int} (ho : (0 ≤ n ∧ n < 8) ∧ 0 ≤ psn ∧ psn ≤ 2147483647) (hc : ¬ (s.owner = n ∧ s.ops n.toNat = op ∧ s.wt = 3)) : RC 60 [.int .i64 n, .int .i64 op, .int .i64 psn] s (wroteT s n op) (discs psn (listTo s.pa 8)) :=
  RC.mk (cap := INF) (wroteR_head ho (wroteLoop s n op psn _ _ _ 8 0 [] rfl (Nat.le_refl _) rfl (wroteEndT s s n op psn _ ⟨ho.1, hc⟩)))
theorem wroteR_w {s t : St} {n op psn : Int} {o : List Ord} (ho : (0 ≤ n ∧ n < 8) ∧ 0 ≤ psn ∧ psn ≤ 2147483647) (hc : s.owner = n ∧ s.ops n.toNat = op ∧ s.wt = 3) (hlen : o.length < 1000000) (h : RC 89 [] (wroteS s n) t o) : RC 60 [.int .i64 n, .int .i64 op, .int .i64 psn] s t (discs psn (listTo s.pa 8) ++ o) := by
  obtain ⟨cap, hcap, hN⟩ := h
  exact RC.mk (cap := INF) (wroteR_head ho (wroteLoop s n op psn _ _ _ 8 0 [] rfl (Nat.le_refl _) rfl (wroteEndW s (by have := discs_le psn s.pa 8; omega) hlen ⟨ho.1, hc⟩ hN)))
end Go.Proofs.Ytjpgnjaobfbojaa

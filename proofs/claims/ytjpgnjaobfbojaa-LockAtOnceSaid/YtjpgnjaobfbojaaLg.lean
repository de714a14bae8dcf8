import Derived.Test.YtjpgnjaobfbojaaLf
namespace Go.Proofs.Ytjpgnjaobfbojaa
open Go.Sx
theorem frameL2 [Den] {P : Program} {t : TypeId} {e : Entry} {a : Value} {z : Int} {A B : HL} (hB : entB e = true) (hent : entOf e = some ([a], A, .int .i64 z, B)) (hsub : ∀ i o, lkL B i = some o → lkL A i = some o) (hok : okHeap (ofL B) = true) (hc : LdC P t a A (.int .i64 z)) : LdOk1 P t e := by
  intro w0 F E H w c' v H' L args' hrun hr hl a' ha
  subst ha
  obtain ⟨st, stL, fin⟩ := frame_core hB hent hrun hr hl
  obtain ⟨v', k1, k2⟩ := hc w _ _ a' st (@LR.cons_inv den0 _ _ _ _ stL |>.elim fun y h => h.elim fun ys h => by obtain ⟨h1, h2, _⟩ := h; cases h1; exact h2)
  cases k2
  obtain ⟨E', m1, m2, m3⟩ := fin _ _ w (fun i x hi hb => by
    have hg : hasB (ofL B) i = true := by
      unfold hasB
      rw [get_ofL]
      cases hx : lkL B i with
      | none => rw [hx] at hb; cases hb
      | some o => rfl
    exact (cutE_of hg).trans hi) (@HR.prune _ _ _ _ _ _ _ den0 st (fun i o h => by rw [get_ofL] at h ⊢; exact hsub i o h) hok) (@VR.int den0 _ .i64 z)
  exact ⟨_, k1, E', m1, m2, m3⟩
theorem LdOk.mk2 {d : Den} {P : Program} {t : TypeId} {e : Entry} {a : Value} {z : Int} {A B : HL} (h : LdC P t a A (.int .i64 z)) (h1 : entB e = true) (h2 : @entOf d e = some ([a], A, .int .i64 z, B)) (hsub : ∀ i o, lkL B i = some o → lkL A i = some o) (hok : okHeap (ofL B) = true) : @AppOk d P [t, 1000000] e :=
  ⟨fun hh => by simp at hh, fun t' ht => by cases ht; exact @frameL2 d P t e a z A B h1 h2 hsub hok h, (fun t' ht => by cases ht)⟩
theorem u57 : Go.Program.underlying Try.prog 57 = some (.array 8 40) := by kernel_rfl
theorem z40 : sizeB Try.prog 40 = some 1 := by kernel_rfl
theorem a40 : aggB Try.prog 40 = some false := by kernel_rfl
def i8 (f : Nat → Int) : List Value := [.int .i64 (f 0), .int .i64 (f 1), .int .i64 (f 2), .int .i64 (f 3), .int .i64 (f 4), .int .i64 (f 5), .int .i64 (f 6), .int .i64 (f 7)]
def ndCells (l : Nat) (md opf : Nat → Int) : List Value := .pointer (some ⟨l, 0, none⟩) :: i8 md ++ i8 opf
def sv8 (i : Nat) : List Value := [sv i, sv (i + 1), sv (i + 2), sv (i + 3), sv (i + 4), sv (i + 5), sv (i + 6), sv (i + 7)]
def ndSy (l i k : Nat) : List Value := .pointer (some ⟨l, 0, none⟩) :: sv8 i ++ sv8 k
def ndH (md opf : Nat → Int) : HL := [(0, .row 59 (.lst (ndCells 1 md opf)) false), (1, .dead)]
def ndR (md opf : Nat → Int) : HL := [(0, .row 59 (.lst (ndCells 1 md opf)) true), (1, .dead)]
theorem ndR_sub (md opf : Nat → Int) : ∀ i o, lkL [(1, AObj.dead)] i = some o → lkL (ndR md opf) i = some o := fun i o h => by
  match i with
  | 0 => cases h
  | 1 => exact h
  | i + 2 => cases h
section
variable (md opf : Nat → Int) {q : Nat}
theorem ld_md (hq : q < 8) : LdC Try.prog 40 (.pointer (some ⟨0, 1 + q, none⟩)) (ndR md opf) (.int .i64 (md q)) := by
  refine LdC.cell _ a40 ?_
  rcases lt8 hq with rfl | rfl | rfl | rfl | rfl | rfl | rfl | rfl <;> rfl
theorem ld_no (hq : q < 8) : LdC Try.prog 2 (.pointer (some ⟨0, 9 + q, none⟩)) (ndR md opf) (.int .i64 (opf q)) := by
  refine LdC.cell _ a2 ?_
  rcases lt8 hq with rfl | rfl | rfl | rfl | rfl | rfl | rfl | rfl <;> rfl
theorem st_md (hq : q < 8) (v : Int) : StC Try.prog 40 (.pointer (some ⟨0, 1 + q, none⟩)) (.int .i64 v) (ndH md opf) (ndH (upd md q v) opf) := by
  have e : ndCells 1 (upd md q v) opf = (ndCells 1 md opf).set (1 + q) (.int .i64 v) := by rcases lt8 hq with rfl | rfl | rfl | rfl | rfl | rfl | rfl | rfl <;> rfl
  unfold ndH
  rw [e]
  exact StC.cell _ z40 (by simp [ndCells, i8]; omega) rfl rfl
theorem st_no (hq : q < 8) (v : Int) : StC Try.prog 2 (.pointer (some ⟨0, 9 + q, none⟩)) (.int .i64 v) (ndH md opf) (ndH md (upd opf q v)) := by
  have e : ndCells 1 md (upd opf q v) = (ndCells 1 md opf).set (9 + q) (.int .i64 v) := by rcases lt8 hq with rfl | rfl | rfl | rfl | rfl | rfl | rfl | rfl <;> rfl
  unfold ndH
  rw [e]
  exact StC.cell _ z2 (by simp [ndCells, i8]; omega) rfl rfl
end
def rtM (md : Nat → Int) : Nat → Int → Int → Bool
  | 0, x, n => if x ≤ 1 then (if x = 0 then true else n == 1) else false
  | k + 1, x, n => rtM md k (if md (7 - k) = 2 then x + 1 else x) (if md (7 - k) = 0 then n else n + 1)
noncomputable abbrev dR (md opf : Nat → Int) (x n : Int) : Den := denG newS (i8 md ++ i8 opf ++ [.int .i64 x, .int .i64 n, .int .i64 (x + 1), .int .i64 (n + 1)]) rfl [lvN] rfl [] no_rows
def ndA0 : HL := [(0, .row 59 (.lst (ndSy 1 40 48)) false), (1, .dead)]
def ndP0 : List Value := [.pointer (some ⟨0, 0, none⟩)]
noncomputable def kR : List KI := ((ksteps (@rec ⟨[], [], []⟩ Try.prog noTbl 100) 9 (startC Try.prog 70 ndP0 2 ndA0)).map (·.k)).getD []
noncomputable def xR (i : Int) : Cfg := headC kR .normal [(0, .pointer (some ⟨0, 0, none⟩)), (3, sv 56), (4, sv 57), (5, .int .i64 i)] 38 2 ndA0
theorem rtEnd_a (md opf : Nat → Int) (x n : Int) (h : ¬ x ≤ 1) : GoodS (dR md opf x n) Try.prog 70 (ndH md opf) (.bool false) (ndH md opf) [0, 1] (xR 8) :=
  @goodS_fin (dR md opf x n) Try.prog mixed ⟨[(.bin .leq 3 (sv 56) (iv 1), .bool false)], [], []⟩ [] ⟨qF ((x : Int) ≤ 1), trivial⟩ trivial trivial trivial 100 10 70 _ _ _ _ _ [(0, 0), (1, 1)] [] (by kernel_rfl) (by kernel_rfl)
theorem rtEnd_b (md opf : Nat → Int) (x n : Int) (h : x = 0) : GoodS (dR md opf x n) Try.prog 70 (ndH md opf) (.bool true) (ndH md opf) [0, 1] (xR 8) :=
  @goodS_fin (dR md opf x n) Try.prog mixed ⟨[(.bin .leq 3 (sv 56) (iv 1), .bool true), (.bin .eql 3 (sv 56) (iv 0), .bool true)], [], []⟩ [] ⟨qT ((x : Int) ≤ 1), eT (x : Int) 0, trivial⟩ trivial trivial trivial 100 10 70 _ _ _ _ _ [(0, 0), (1, 1)] [] (by kernel_rfl) (by kernel_rfl)
theorem rtEnd_c (md opf : Nat → Int) (x n : Int) (h : x ≤ 1) (h0 : ¬ x = 0) (hn : n = 1) : GoodS (dR md opf x n) Try.prog 70 (ndH md opf) (.bool true) (ndH md opf) [0, 1] (xR 8) :=
  @goodS_fin (dR md opf x n) Try.prog mixed ⟨[(.bin .leq 3 (sv 56) (iv 1), .bool true), (.bin .eql 3 (sv 56) (iv 0), .bool false), (.bin .eql 3 (sv 57) (iv 1), .bool true)], [], []⟩ [] ⟨qT ((x : Int) ≤ 1), eF (x : Int) 0, eT (n : Int) 1, trivial⟩ trivial trivial trivial 100 10 70 _ _ _ _ _ [(0, 0), (1, 1)] [] (by kernel_rfl) (by kernel_rfl)
theorem rtEnd_d (md opf : Nat → Int) (x n : Int) (h : x ≤ 1) (h0 : ¬ x = 0) (hn : ¬ n = 1) : GoodS (dR md opf x n) Try.prog 70 (ndH md opf) (.bool false) (ndH md opf) [0, 1] (xR 8) :=
  @goodS_fin (dR md opf x n) Try.prog mixed ⟨[(.bin .leq 3 (sv 56) (iv 1), .bool true), (.bin .eql 3 (sv 56) (iv 0), .bool false), (.bin .eql 3 (sv 57) (iv 1), .bool false)], [], []⟩ [] ⟨qT ((x : Int) ≤ 1), eF (x : Int) 0, eF (n : Int) 1, trivial⟩ trivial trivial trivial 100 10 70 _ _ _ _ _ [(0, 0), (1, 1)] [] (by kernel_rfl) (by kernel_rfl)
theorem rtEnd (md opf : Nat → Int) (x n : Int) : GoodS (dR md opf x n) Try.prog 70 (ndH md opf) (.bool (rtM md 0 x n)) (ndH md opf) [0, 1] (xR 8) := by
  unfold rtM
  by_cases h : x ≤ 1
  · rw [if_pos h]
    by_cases h0 : x = 0
    · rw [if_pos h0]; exact rtEnd_b md opf x n h0
    · rw [if_neg h0]
      by_cases hn : n = 1
      · rw [show (n == 1) = true from beq_iff_eq.2 hn]; exact rtEnd_c md opf x n h h0 hn
      · rw [show (n == 1) = false from beq_eq_false_iff_ne.2 hn]; exact rtEnd_d md opf x n h h0 hn
  · rw [if_neg h]; exact rtEnd_a md opf x n h
theorem rt_7_z (md opf : Nat → Int) (x n : Int) (_hx : 0 ≤ x ∧ x ≤ 100) (_hn : 0 ≤ n ∧ n ≤ 100) (res : Value) (h : md 7 = 0) (hg : GoodS (dR md opf x n) Try.prog 70 (ndH md opf) res (ndH md opf) [0, 1] (xR 8)) : GoodS (dR md opf x n) Try.prog 70 (ndH md opf) res (ndH md opf) [0, 1] (xR 7) := by
  refine @goodS_seg (dR md opf x n) (dR md opf x n) Try.prog mixed ⟨[(.bin .neq 40 (sv 47) (iv 0), .bool false), (.bin .eql 40 (sv 47) (iv 2), .bool false)], [], []⟩ [] ⟨nF (md 7 : Int) 0, eF (md 7 : Int) 2, trivial⟩ trivial trivial trivial 100 16 70 _ _ _ _ _ [(0, 0), (1, 1)] [] kR .normal [(0, pt 0 0), (3, sv 56), (4, sv 57), (5, iv 8)] 38 2 ndA0 (by kernel_rfl) (by kernel_rfl) (by kernel_rfl) ?_
  exact hg
theorem rt_7_t (md opf : Nat → Int) (x n : Int) (_hx : 0 ≤ x ∧ x ≤ 100) (_hn : 0 ≤ n ∧ n ≤ 100) (res : Value) (h : md 7 = 2) (hg : GoodS (dR md opf (x + 1) (n + 1)) Try.prog 70 (ndH md opf) res (ndH md opf) [0, 1] (xR 8)) : GoodS (dR md opf x n) Try.prog 70 (ndH md opf) res (ndH md opf) [0, 1] (xR 7) := by
  refine @goodS_seg (dR md opf x n) (dR md opf (x + 1) (n + 1)) Try.prog mixed ⟨[(.bin .neq 40 (sv 47) (iv 0), .bool true), (.bin .add 3 (sv 57) (iv 1), sv 59), (.bin .eql 40 (sv 47) (iv 2), .bool true), (.bin .add 3 (sv 56) (iv 1), sv 58)], [], []⟩ [] ⟨nT (md 7 : Int) 0, asP (u := iv (n + 1)) (Eq.trans (b := some (iv (IntKind.i64.wrap (n + 1)))) (by kernel_rfl) (by rw [wrap_id (by omega) (by omega)])) (by kernel_rfl), eT (md 7 : Int) 2, asP (u := iv (x + 1)) (Eq.trans (b := some (iv (IntKind.i64.wrap (x + 1)))) (by kernel_rfl) (by rw [wrap_id (by omega) (by omega)])) (by kernel_rfl), trivial⟩ trivial trivial trivial 100 16 70 _ _ _ _ _ [(0, 0), (1, 1)] [] kR .normal [(0, pt 0 0), (3, sv 56), (4, sv 57), (5, iv 8)] 38 2 ndA0 (by kernel_rfl) (by kernel_rfl) (by kernel_rfl) ?_
  exact hg
theorem rt_7_o (md opf : Nat → Int) (x n : Int) (_hx : 0 ≤ x ∧ x ≤ 100) (_hn : 0 ≤ n ∧ n ≤ 100) (res : Value) (h : ¬ md 7 = 0) (h2 : ¬ md 7 = 2) (hg : GoodS (dR md opf x (n + 1)) Try.prog 70 (ndH md opf) res (ndH md opf) [0, 1] (xR 8)) : GoodS (dR md opf x n) Try.prog 70 (ndH md opf) res (ndH md opf) [0, 1] (xR 7) := by
  refine @goodS_seg (dR md opf x n) (dR md opf x (n + 1)) Try.prog mixed ⟨[(.bin .neq 40 (sv 47) (iv 0), .bool true), (.bin .add 3 (sv 57) (iv 1), sv 59), (.bin .eql 40 (sv 47) (iv 2), .bool false)], [], []⟩ [] ⟨nT (md 7 : Int) 0, asP (u := iv (n + 1)) (Eq.trans (b := some (iv (IntKind.i64.wrap (n + 1)))) (by kernel_rfl) (by rw [wrap_id (by omega) (by omega)])) (by kernel_rfl), eF (md 7 : Int) 2, trivial⟩ trivial trivial trivial 100 16 70 _ _ _ _ _ [(0, 0), (1, 1)] [] kR .normal [(0, pt 0 0), (3, sv 56), (4, sv 57), (5, iv 8)] 38 2 ndA0 (by kernel_rfl) (by kernel_rfl) (by kernel_rfl) ?_
  exact hg
theorem rtAt_7 (md opf : Nat → Int) (x n : Int) (hx : 0 ≤ x ∧ x ≤ 7) (hn : 0 ≤ n ∧ n ≤ 7) : GoodS (dR md opf x n) Try.prog 70 (ndH md opf) (.bool (rtM md 1 x n)) (ndH md opf) [0, 1] (xR 7) := by
  by_cases h : md 7 = 0
  · have e : rtM md 1 x n = rtM md 0 x n := by
      show rtM md 0 (if md 7 = 2 then x + 1 else x) (if md 7 = 0 then n else n + 1) = _
      rw [if_neg (by omega), if_pos h]
    rw [e]
    exact rt_7_z md opf x n (by omega) (by omega) _ h (rtEnd md opf x n)
  · by_cases h2 : md 7 = 2
    · have e : rtM md 1 x n = rtM md 0 (x + 1) (n + 1) := by
        show rtM md 0 (if md 7 = 2 then x + 1 else x) (if md 7 = 0 then n else n + 1) = _
        rw [if_pos h2, if_neg h]
      rw [e]
      exact rt_7_t md opf x n (by omega) (by omega) _ h2 (rtEnd md opf (x + 1) (n + 1))
    · have e : rtM md 1 x n = rtM md 0 x (n + 1) := by
        show rtM md 0 (if md 7 = 2 then x + 1 else x) (if md 7 = 0 then n else n + 1) = _
        rw [if_neg h2, if_neg h]
      rw [e]
      exact rt_7_o md opf x n (by omega) (by omega) _ h h2 (rtEnd md opf x (n + 1))
theorem rt_6_z (md opf : Nat → Int) (x n : Int) (_hx : 0 ≤ x ∧ x ≤ 100) (_hn : 0 ≤ n ∧ n ≤ 100) (res : Value) (h : md 6 = 0) (hg : GoodS (dR md opf x n) Try.prog 70 (ndH md opf) res (ndH md opf) [0, 1] (xR 7)) : GoodS (dR md opf x n) Try.prog 70 (ndH md opf) res (ndH md opf) [0, 1] (xR 6) := by
  refine @goodS_seg (dR md opf x n) (dR md opf x n) Try.prog mixed ⟨[(.bin .neq 40 (sv 46) (iv 0), .bool false), (.bin .eql 40 (sv 46) (iv 2), .bool false)], [], []⟩ [] ⟨nF (md 6 : Int) 0, eF (md 6 : Int) 2, trivial⟩ trivial trivial trivial 100 16 70 _ _ _ _ _ [(0, 0), (1, 1)] [] kR .normal [(0, pt 0 0), (3, sv 56), (4, sv 57), (5, iv 7)] 38 2 ndA0 (by kernel_rfl) (by kernel_rfl) (by kernel_rfl) ?_
  exact hg
theorem rt_6_t (md opf : Nat → Int) (x n : Int) (_hx : 0 ≤ x ∧ x ≤ 100) (_hn : 0 ≤ n ∧ n ≤ 100) (res : Value) (h : md 6 = 2) (hg : GoodS (dR md opf (x + 1) (n + 1)) Try.prog 70 (ndH md opf) res (ndH md opf) [0, 1] (xR 7)) : GoodS (dR md opf x n) Try.prog 70 (ndH md opf) res (ndH md opf) [0, 1] (xR 6) := by
  refine @goodS_seg (dR md opf x n) (dR md opf (x + 1) (n + 1)) Try.prog mixed ⟨[(.bin .neq 40 (sv 46) (iv 0), .bool true), (.bin .add 3 (sv 57) (iv 1), sv 59), (.bin .eql 40 (sv 46) (iv 2), .bool true), (.bin .add 3 (sv 56) (iv 1), sv 58)], [], []⟩ [] ⟨nT (md 6 : Int) 0, asP (u := iv (n + 1)) (Eq.trans (b := some (iv (IntKind.i64.wrap (n + 1)))) (by kernel_rfl) (by rw [wrap_id (by omega) (by omega)])) (by kernel_rfl), eT (md 6 : Int) 2, asP (u := iv (x + 1)) (Eq.trans (b := some (iv (IntKind.i64.wrap (x + 1)))) (by kernel_rfl) (by rw [wrap_id (by omega) (by omega)])) (by kernel_rfl), trivial⟩ trivial trivial trivial 100 16 70 _ _ _ _ _ [(0, 0), (1, 1)] [] kR .normal [(0, pt 0 0), (3, sv 56), (4, sv 57), (5, iv 7)] 38 2 ndA0 (by kernel_rfl) (by kernel_rfl) (by kernel_rfl) ?_
  exact hg
theorem rt_6_o (md opf : Nat → Int) (x n : Int) (_hx : 0 ≤ x ∧ x ≤ 100) (_hn : 0 ≤ n ∧ n ≤ 100) (res : Value) (h : ¬ md 6 = 0) (h2 : ¬ md 6 = 2) (hg : GoodS (dR md opf x (n + 1)) Try.prog 70 (ndH md opf) res (ndH md opf) [0, 1] (xR 7)) : GoodS (dR md opf x n) Try.prog 70 (ndH md opf) res (ndH md opf) [0, 1] (xR 6) := by
  refine @goodS_seg (dR md opf x n) (dR md opf x (n + 1)) Try.prog mixed ⟨[(.bin .neq 40 (sv 46) (iv 0), .bool true), (.bin .add 3 (sv 57) (iv 1), sv 59), (.bin .eql 40 (sv 46) (iv 2), .bool false)], [], []⟩ [] ⟨nT (md 6 : Int) 0, asP (u := iv (n + 1)) (Eq.trans (b := some (iv (IntKind.i64.wrap (n + 1)))) (by kernel_rfl) (by rw [wrap_id (by omega) (by omega)])) (by kernel_rfl), eF (md 6 : Int) 2, trivial⟩ trivial trivial trivial 100 16 70 _ _ _ _ _ [(0, 0), (1, 1)] [] kR .normal [(0, pt 0 0), (3, sv 56), (4, sv 57), (5, iv 7)] 38 2 ndA0 (by kernel_rfl) (by kernel_rfl) (by kernel_rfl) ?_
  exact hg
theorem rtAt_6 (md opf : Nat → Int) (x n : Int) (hx : 0 ≤ x ∧ x ≤ 6) (hn : 0 ≤ n ∧ n ≤ 6) : GoodS (dR md opf x n) Try.prog 70 (ndH md opf) (.bool (rtM md 2 x n)) (ndH md opf) [0, 1] (xR 6) := by
  by_cases h : md 6 = 0
  · have e : rtM md 2 x n = rtM md 1 x n := by
      show rtM md 1 (if md 6 = 2 then x + 1 else x) (if md 6 = 0 then n else n + 1) = _
      rw [if_neg (by omega), if_pos h]
    rw [e]
    exact rt_6_z md opf x n (by omega) (by omega) _ h (rtAt_7 md opf x n (by omega) (by omega))
  · by_cases h2 : md 6 = 2
    · have e : rtM md 2 x n = rtM md 1 (x + 1) (n + 1) := by
        show rtM md 1 (if md 6 = 2 then x + 1 else x) (if md 6 = 0 then n else n + 1) = _
        rw [if_pos h2, if_neg h]
      rw [e]
      exact rt_6_t md opf x n (by omega) (by omega) _ h2 (rtAt_7 md opf (x + 1) (n + 1) (by omega) (by omega))
    · have e : rtM md 2 x n = rtM md 1 x (n + 1) := by
        show rtM md 1 (if md 6 = 2 then x + 1 else x) (if md 6 = 0 then n else n + 1) = _
        rw [if_neg h2, if_neg h]
      rw [e]
      exact rt_6_o md opf x n (by omega) (by omega) _ h h2 (rtAt_7 md opf x (n + 1) (by omega) (by omega))
theorem rt_5_z (md opf : Nat → Int) (x n : Int) (_hx : 0 ≤ x ∧ x ≤ 100) (_hn : 0 ≤ n ∧ n ≤ 100) (res : Value) (h : md 5 = 0) (hg : GoodS (dR md opf x n) Try.prog 70 (ndH md opf) res (ndH md opf) [0, 1] (xR 6)) : GoodS (dR md opf x n) Try.prog 70 (ndH md opf) res (ndH md opf) [0, 1] (xR 5) := by
  refine @goodS_seg (dR md opf x n) (dR md opf x n) Try.prog mixed ⟨[(.bin .neq 40 (sv 45) (iv 0), .bool false), (.bin .eql 40 (sv 45) (iv 2), .bool false)], [], []⟩ [] ⟨nF (md 5 : Int) 0, eF (md 5 : Int) 2, trivial⟩ trivial trivial trivial 100 16 70 _ _ _ _ _ [(0, 0), (1, 1)] [] kR .normal [(0, pt 0 0), (3, sv 56), (4, sv 57), (5, iv 6)] 38 2 ndA0 (by kernel_rfl) (by kernel_rfl) (by kernel_rfl) ?_
  exact hg
theorem rt_5_t (md opf : Nat → Int) (x n : Int) (_hx : 0 ≤ x ∧ x ≤ 100) (_hn : 0 ≤ n ∧ n ≤ 100) (res : Value) (h : md 5 = 2) (hg : GoodS (dR md opf (x + 1) (n + 1)) Try.prog 70 (ndH md opf) res (ndH md opf) [0, 1] (xR 6)) : GoodS (dR md opf x n) Try.prog 70 (ndH md opf) res (ndH md opf) [0, 1] (xR 5) := by
  refine @goodS_seg (dR md opf x n) (dR md opf (x + 1) (n + 1)) Try.prog mixed ⟨[(.bin .neq 40 (sv 45) (iv 0), .bool true), (.bin .add 3 (sv 57) (iv 1), sv 59), (.bin .eql 40 (sv 45) (iv 2), .bool true), (.bin .add 3 (sv 56) (iv 1), sv 58)], [], []⟩ [] ⟨nT (md 5 : Int) 0, asP (u := iv (n + 1)) (Eq.trans (b := some (iv (IntKind.i64.wrap (n + 1)))) (by kernel_rfl) (by rw [wrap_id (by omega) (by omega)])) (by kernel_rfl), eT (md 5 : Int) 2, asP (u := iv (x + 1)) (Eq.trans (b := some (iv (IntKind.i64.wrap (x + 1)))) (by kernel_rfl) (by rw [wrap_id (by omega) (by omega)])) (by kernel_rfl), trivial⟩ trivial trivial trivial 100 16 70 _ _ _ _ _ [(0, 0), (1, 1)] [] kR .normal [(0, pt 0 0), (3, sv 56), (4, sv 57), (5, iv 6)] 38 2 ndA0 (by kernel_rfl) (by kernel_rfl) (by kernel_rfl) ?_
  exact hg
theorem rt_5_o (md opf : Nat → Int) (x n : Int) (_hx : 0 ≤ x ∧ x ≤ 100) (_hn : 0 ≤ n ∧ n ≤ 100) (res : Value) (h : ¬ md 5 = 0) (h2 : ¬ md 5 = 2) (hg : GoodS (dR md opf x (n + 1)) Try.prog 70 (ndH md opf) res (ndH md opf) [0, 1] (xR 6)) : GoodS (dR md opf x n) Try.prog 70 (ndH md opf) res (ndH md opf) [0, 1] (xR 5) := by
  refine @goodS_seg (dR md opf x n) (dR md opf x (n + 1)) Try.prog mixed ⟨[(.bin .neq 40 (sv 45) (iv 0), .bool true), (.bin .add 3 (sv 57) (iv 1), sv 59), (.bin .eql 40 (sv 45) (iv 2), .bool false)], [], []⟩ [] ⟨nT (md 5 : Int) 0, asP (u := iv (n + 1)) (Eq.trans (b := some (iv (IntKind.i64.wrap (n + 1)))) (by kernel_rfl) (by rw [wrap_id (by omega) (by omega)])) (by kernel_rfl), eF (md 5 : Int) 2, trivial⟩ trivial trivial trivial 100 16 70 _ _ _ _ _ [(0, 0), (1, 1)] [] kR .normal [(0, pt 0 0), (3, sv 56), (4, sv 57), (5, iv 6)] 38 2 ndA0 (by kernel_rfl) (by kernel_rfl) (by kernel_rfl) ?_
  exact hg
theorem rtAt_5 (md opf : Nat → Int) (x n : Int) (hx : 0 ≤ x ∧ x ≤ 5) (hn : 0 ≤ n ∧ n ≤ 5) : GoodS (dR md opf x n) Try.prog 70 (ndH md opf) (.bool (rtM md 3 x n)) (ndH md opf) [0, 1] (xR 5) := by
  by_cases h : md 5 = 0
  · have e : rtM md 3 x n = rtM md 2 x n := by
      show rtM md 2 (if md 5 = 2 then x + 1 else x) (if md 5 = 0 then n else n + 1) = _
      rw [if_neg (by omega), if_pos h]
    rw [e]
    exact rt_5_z md opf x n (by omega) (by omega) _ h (rtAt_6 md opf x n (by omega) (by omega))
  · by_cases h2 : md 5 = 2
    · have e : rtM md 3 x n = rtM md 2 (x + 1) (n + 1) := by
        show rtM md 2 (if md 5 = 2 then x + 1 else x) (if md 5 = 0 then n else n + 1) = _
        rw [if_pos h2, if_neg h]
      rw [e]
      exact rt_5_t md opf x n (by omega) (by omega) _ h2 (rtAt_6 md opf (x + 1) (n + 1) (by omega) (by omega))
    · have e : rtM md 3 x n = rtM md 2 x (n + 1) := by
        show rtM md 2 (if md 5 = 2 then x + 1 else x) (if md 5 = 0 then n else n + 1) = _
        rw [if_neg h2, if_neg h]
      rw [e]
      exact rt_5_o md opf x n (by omega) (by omega) _ h h2 (rtAt_6 md opf x (n + 1) (by omega) (by omega))
theorem rt_4_z (md opf : Nat → Int) (x n : Int) (_hx : 0 ≤ x ∧ x ≤ 100) (_hn : 0 ≤ n ∧ n ≤ 100) (res : Value) (h : md 4 = 0) (hg : GoodS (dR md opf x n) Try.prog 70 (ndH md opf) res (ndH md opf) [0, 1] (xR 5)) : GoodS (dR md opf x n) Try.prog 70 (ndH md opf) res (ndH md opf) [0, 1] (xR 4) := by
  refine @goodS_seg (dR md opf x n) (dR md opf x n) Try.prog mixed ⟨[(.bin .neq 40 (sv 44) (iv 0), .bool false), (.bin .eql 40 (sv 44) (iv 2), .bool false)], [], []⟩ [] ⟨nF (md 4 : Int) 0, eF (md 4 : Int) 2, trivial⟩ trivial trivial trivial 100 16 70 _ _ _ _ _ [(0, 0), (1, 1)] [] kR .normal [(0, pt 0 0), (3, sv 56), (4, sv 57), (5, iv 5)] 38 2 ndA0 (by kernel_rfl) (by kernel_rfl) (by kernel_rfl) ?_
  exact hg
theorem rt_4_t (md opf : Nat → Int) (x n : Int) (_hx : 0 ≤ x ∧ x ≤ 100) (_hn : 0 ≤ n ∧ n ≤ 100) (res : Value) (h : md 4 = 2) (hg : GoodS (dR md opf (x + 1) (n + 1)) Try.prog 70 (ndH md opf) res (ndH md opf) [0, 1] (xR 5)) : GoodS (dR md opf x n) Try.prog 70 (ndH md opf) res (ndH md opf) [0, 1] (xR 4) := by
  refine @goodS_seg (dR md opf x n) (dR md opf (x + 1) (n + 1)) Try.prog mixed ⟨[(.bin .neq 40 (sv 44) (iv 0), .bool true), (.bin .add 3 (sv 57) (iv 1), sv 59), (.bin .eql 40 (sv 44) (iv 2), .bool true), (.bin .add 3 (sv 56) (iv 1), sv 58)], [], []⟩ [] ⟨nT (md 4 : Int) 0, asP (u := iv (n + 1)) (Eq.trans (b := some (iv (IntKind.i64.wrap (n + 1)))) (by kernel_rfl) (by rw [wrap_id (by omega) (by omega)])) (by kernel_rfl), eT (md 4 : Int) 2, asP (u := iv (x + 1)) (Eq.trans (b := some (iv (IntKind.i64.wrap (x + 1)))) (by kernel_rfl) (by rw [wrap_id (by omega) (by omega)])) (by kernel_rfl), trivial⟩ trivial trivial trivial 100 16 70 _ _ _ _ _ [(0, 0), (1, 1)] [] kR .normal [(0, pt 0 0), (3, sv 56), (4, sv 57), (5, iv 5)] 38 2 ndA0 (by kernel_rfl) (by kernel_rfl) (by kernel_rfl) ?_
  exact hg
theorem rt_4_o (md opf : Nat → Int) (x n : Int) (_hx : 0 ≤ x ∧ x ≤ 100) (_hn : 0 ≤ n ∧ n ≤ 100) (res : Value) (h : ¬ md 4 = 0) (h2 : ¬ md 4 = 2) (hg : GoodS (dR md opf x (n + 1)) Try.prog 70 (ndH md opf) res (ndH md opf) [0, 1] (xR 5)) : GoodS (dR md opf x n) Try.prog 70 (ndH md opf) res (ndH md opf) [0, 1] (xR 4) := by
  refine @goodS_seg (dR md opf x n) (dR md opf x (n + 1)) Try.prog mixed ⟨[(.bin .neq 40 (sv 44) (iv 0), .bool true), (.bin .add 3 (sv 57) (iv 1), sv 59), (.bin .eql 40 (sv 44) (iv 2), .bool false)], [], []⟩ [] ⟨nT (md 4 : Int) 0, asP (u := iv (n + 1)) (Eq.trans (b := some (iv (IntKind.i64.wrap (n + 1)))) (by kernel_rfl) (by rw [wrap_id (by omega) (by omega)])) (by kernel_rfl), eF (md 4 : Int) 2, trivial⟩ trivial trivial trivial 100 16 70 _ _ _ _ _ [(0, 0), (1, 1)] [] kR .normal [(0, pt 0 0), (3, sv 56), (4, sv 57), (5, iv 5)] 38 2 ndA0 (by kernel_rfl) (by kernel_rfl) (by kernel_rfl) ?_
  exact hg
theorem rtAt_4 (md opf : Nat → Int) (x n : Int) (hx : 0 ≤ x ∧ x ≤ 4) (hn : 0 ≤ n ∧ n ≤ 4) : GoodS (dR md opf x n) Try.prog 70 (ndH md opf) (.bool (rtM md 4 x n)) (ndH md opf) [0, 1] (xR 4) := by
  by_cases h : md 4 = 0
  · have e : rtM md 4 x n = rtM md 3 x n := by
      show rtM md 3 (if md 4 = 2 then x + 1 else x) (if md 4 = 0 then n else n + 1) = _
      rw [if_neg (by omega), if_pos h]
    rw [e]
    exact rt_4_z md opf x n (by omega) (by omega) _ h (rtAt_5 md opf x n (by omega) (by omega))
  · by_cases h2 : md 4 = 2
    · have e : rtM md 4 x n = rtM md 3 (x + 1) (n + 1) := by
        show rtM md 3 (if md 4 = 2 then x + 1 else x) (if md 4 = 0 then n else n + 1) = _
        rw [if_pos h2, if_neg h]
      rw [e]
      exact rt_4_t md opf x n (by omega) (by omega) _ h2 (rtAt_5 md opf (x + 1) (n + 1) (by omega) (by omega))
    · have e : rtM md 4 x n = rtM md 3 x (n + 1) := by
        show rtM md 3 (if md 4 = 2 then x + 1 else x) (if md 4 = 0 then n else n + 1) = _
        rw [if_neg h2, if_neg h]
      rw [e]
      exact rt_4_o md opf x n (by omega) (by omega) _ h h2 (rtAt_5 md opf x (n + 1) (by omega) (by omega))
theorem rt_3_z (md opf : Nat → Int) (x n : Int) (_hx : 0 ≤ x ∧ x ≤ 100) (_hn : 0 ≤ n ∧ n ≤ 100) (res : Value) (h : md 3 = 0) (hg : GoodS (dR md opf x n) Try.prog 70 (ndH md opf) res (ndH md opf) [0, 1] (xR 4)) : GoodS (dR md opf x n) Try.prog 70 (ndH md opf) res (ndH md opf) [0, 1] (xR 3) := by
  refine @goodS_seg (dR md opf x n) (dR md opf x n) Try.prog mixed ⟨[(.bin .neq 40 (sv 43) (iv 0), .bool false), (.bin .eql 40 (sv 43) (iv 2), .bool false)], [], []⟩ [] ⟨nF (md 3 : Int) 0, eF (md 3 : Int) 2, trivial⟩ trivial trivial trivial 100 16 70 _ _ _ _ _ [(0, 0), (1, 1)] [] kR .normal [(0, pt 0 0), (3, sv 56), (4, sv 57), (5, iv 4)] 38 2 ndA0 (by kernel_rfl) (by kernel_rfl) (by kernel_rfl) ?_
  exact hg
theorem rt_3_t (md opf : Nat → Int) (x n : Int) (_hx : 0 ≤ x ∧ x ≤ 100) (_hn : 0 ≤ n ∧ n ≤ 100) (res : Value) (h : md 3 = 2) (hg : GoodS (dR md opf (x + 1) (n + 1)) Try.prog 70 (ndH md opf) res (ndH md opf) [0, 1] (xR 4)) : GoodS (dR md opf x n) Try.prog 70 (ndH md opf) res (ndH md opf) [0, 1] (xR 3) := by
  refine @goodS_seg (dR md opf x n) (dR md opf (x + 1) (n + 1)) Try.prog mixed ⟨[(.bin .neq 40 (sv 43) (iv 0), .bool true), (.bin .add 3 (sv 57) (iv 1), sv 59), (.bin .eql 40 (sv 43) (iv 2), .bool true), (.bin .add 3 (sv 56) (iv 1), sv 58)], [], []⟩ [] ⟨nT (md 3 : Int) 0, asP (u := iv (n + 1)) (Eq.trans (b := some (iv (IntKind.i64.wrap (n + 1)))) (by kernel_rfl) (by rw [wrap_id (by omega) (by omega)])) (by kernel_rfl), eT (md 3 : Int) 2, asP (u := iv (x + 1)) (Eq.trans (b := some (iv (IntKind.i64.wrap (x + 1)))) (by kernel_rfl) (by rw [wrap_id (by omega) (by omega)])) (by kernel_rfl), trivial⟩ trivial trivial trivial 100 16 70 _ _ _ _ _ [(0, 0), (1, 1)] [] kR .normal [(0, pt 0 0), (3, sv 56), (4, sv 57), (5, iv 4)] 38 2 ndA0 (by kernel_rfl) (by kernel_rfl) (by kernel_rfl) ?_
  exact hg
theorem rt_3_o (md opf : Nat → Int) (x n : Int) (_hx : 0 ≤ x ∧ x ≤ 100) (_hn : 0 ≤ n ∧ n ≤ 100) (res : Value) (h : ¬ md 3 = 0) (h2 : ¬ md 3 = 2) (hg : GoodS (dR md opf x (n + 1)) Try.prog 70 (ndH md opf) res (ndH md opf) [0, 1] (xR 4)) : GoodS (dR md opf x n) Try.prog 70 (ndH md opf) res (ndH md opf) [0, 1] (xR 3) := by
  refine @goodS_seg (dR md opf x n) (dR md opf x (n + 1)) Try.prog mixed ⟨[(.bin .neq 40 (sv 43) (iv 0), .bool true), (.bin .add 3 (sv 57) (iv 1), sv 59), (.bin .eql 40 (sv 43) (iv 2), .bool false)], [], []⟩ [] ⟨nT (md 3 : Int) 0, asP (u := iv (n + 1)) (Eq.trans (b := some (iv (IntKind.i64.wrap (n + 1)))) (by kernel_rfl) (by rw [wrap_id (by omega) (by omega)])) (by kernel_rfl), eF (md 3 : Int) 2, trivial⟩ trivial trivial trivial 100 16 70 _ _ _ _ _ [(0, 0), (1, 1)] [] kR .normal [(0, pt 0 0), (3, sv 56), (4, sv 57), (5, iv 4)] 38 2 ndA0 (by kernel_rfl) (by kernel_rfl) (by kernel_rfl) ?_
  exact hg
theorem rtAt_3 (md opf : Nat → Int) (x n : Int) (hx : 0 ≤ x ∧ x ≤ 3) (hn : 0 ≤ n ∧ n ≤ 3) : GoodS (dR md opf x n) Try.prog 70 (ndH md opf) (.bool (rtM md 5 x n)) (ndH md opf) [0, 1] (xR 3) := by
  by_cases h : md 3 = 0
  · have e : rtM md 5 x n = rtM md 4 x n := by
      show rtM md 4 (if md 3 = 2 then x + 1 else x) (if md 3 = 0 then n else n + 1) = _
      rw [if_neg (by omega), if_pos h]
    rw [e]
    exact rt_3_z md opf x n (by omega) (by omega) _ h (rtAt_4 md opf x n (by omega) (by omega))
  · by_cases h2 : md 3 = 2
    · have e : rtM md 5 x n = rtM md 4 (x + 1) (n + 1) := by
        show rtM md 4 (if md 3 = 2 then x + 1 else x) (if md 3 = 0 then n else n + 1) = _
        rw [if_pos h2, if_neg h]
      rw [e]
      exact rt_3_t md opf x n (by omega) (by omega) _ h2 (rtAt_4 md opf (x + 1) (n + 1) (by omega) (by omega))
    · have e : rtM md 5 x n = rtM md 4 x (n + 1) := by
        show rtM md 4 (if md 3 = 2 then x + 1 else x) (if md 3 = 0 then n else n + 1) = _
        rw [if_neg h2, if_neg h]
      rw [e]
      exact rt_3_o md opf x n (by omega) (by omega) _ h h2 (rtAt_4 md opf x (n + 1) (by omega) (by omega))
theorem rt_2_z (md opf : Nat → Int) (x n : Int) (_hx : 0 ≤ x ∧ x ≤ 100) (_hn : 0 ≤ n ∧ n ≤ 100) (res : Value) (h : md 2 = 0) (hg : GoodS (dR md opf x n) Try.prog 70 (ndH md opf) res (ndH md opf) [0, 1] (xR 3)) : GoodS (dR md opf x n) Try.prog 70 (ndH md opf) res (ndH md opf) [0, 1] (xR 2) := by
  refine @goodS_seg (dR md opf x n) (dR md opf x n) Try.prog mixed ⟨[(.bin .neq 40 (sv 42) (iv 0), .bool false), (.bin .eql 40 (sv 42) (iv 2), .bool false)], [], []⟩ [] ⟨nF (md 2 : Int) 0, eF (md 2 : Int) 2, trivial⟩ trivial trivial trivial 100 16 70 _ _ _ _ _ [(0, 0), (1, 1)] [] kR .normal [(0, pt 0 0), (3, sv 56), (4, sv 57), (5, iv 3)] 38 2 ndA0 (by kernel_rfl) (by kernel_rfl) (by kernel_rfl) ?_
  exact hg
theorem rt_2_t (md opf : Nat → Int) (x n : Int) (_hx : 0 ≤ x ∧ x ≤ 100) (_hn : 0 ≤ n ∧ n ≤ 100) (res : Value) (h : md 2 = 2) (hg : GoodS (dR md opf (x + 1) (n + 1)) Try.prog 70 (ndH md opf) res (ndH md opf) [0, 1] (xR 3)) : GoodS (dR md opf x n) Try.prog 70 (ndH md opf) res (ndH md opf) [0, 1] (xR 2) := by
  refine @goodS_seg (dR md opf x n) (dR md opf (x + 1) (n + 1)) Try.prog mixed ⟨[(.bin .neq 40 (sv 42) (iv 0), .bool true), (.bin .add 3 (sv 57) (iv 1), sv 59), (.bin .eql 40 (sv 42) (iv 2), .bool true), (.bin .add 3 (sv 56) (iv 1), sv 58)], [], []⟩ [] ⟨nT (md 2 : Int) 0, asP (u := iv (n + 1)) (Eq.trans (b := some (iv (IntKind.i64.wrap (n + 1)))) (by kernel_rfl) (by rw [wrap_id (by omega) (by omega)])) (by kernel_rfl), eT (md 2 : Int) 2, asP (u := iv (x + 1)) (Eq.trans (b := some (iv (IntKind.i64.wrap (x + 1)))) (by kernel_rfl) (by rw [wrap_id (by omega) (by omega)])) (by kernel_rfl), trivial⟩ trivial trivial trivial 100 16 70 _ _ _ _ _ [(0, 0), (1, 1)] [] kR .normal [(0, pt 0 0), (3, sv 56), (4, sv 57), (5, iv 3)] 38 2 ndA0 (by kernel_rfl) (by kernel_rfl) (by kernel_rfl) ?_
  exact hg
theorem rt_2_o (md opf : Nat → Int) (x n : Int) (_hx : 0 ≤ x ∧ x ≤ 100) (_hn : 0 ≤ n ∧ n ≤ 100) (res : Value) (h : ¬ md 2 = 0) (h2 : ¬ md 2 = 2) (hg : GoodS (dR md opf x (n + 1)) Try.prog 70 (ndH md opf) res (ndH md opf) [0, 1] (xR 3)) : GoodS (dR md opf x n) Try.prog 70 (ndH md opf) res (ndH md opf) [0, 1] (xR 2) := by
  refine @goodS_seg (dR md opf x n) (dR md opf x (n + 1)) Try.prog mixed ⟨[(.bin .neq 40 (sv 42) (iv 0), .bool true), (.bin .add 3 (sv 57) (iv 1), sv 59), (.bin .eql 40 (sv 42) (iv 2), .bool false)], [], []⟩ [] ⟨nT (md 2 : Int) 0, asP (u := iv (n + 1)) (Eq.trans (b := some (iv (IntKind.i64.wrap (n + 1)))) (by kernel_rfl) (by rw [wrap_id (by omega) (by omega)])) (by kernel_rfl), eF (md 2 : Int) 2, trivial⟩ trivial trivial trivial 100 16 70 _ _ _ _ _ [(0, 0), (1, 1)] [] kR .normal [(0, pt 0 0), (3, sv 56), (4, sv 57), (5, iv 3)] 38 2 ndA0 (by kernel_rfl) (by kernel_rfl) (by kernel_rfl) ?_
  exact hg
theorem rtAt_2 (md opf : Nat → Int) (x n : Int) (hx : 0 ≤ x ∧ x ≤ 2) (hn : 0 ≤ n ∧ n ≤ 2) : GoodS (dR md opf x n) Try.prog 70 (ndH md opf) (.bool (rtM md 6 x n)) (ndH md opf) [0, 1] (xR 2) := by
  by_cases h : md 2 = 0
  · have e : rtM md 6 x n = rtM md 5 x n := by
      show rtM md 5 (if md 2 = 2 then x + 1 else x) (if md 2 = 0 then n else n + 1) = _
      rw [if_neg (by omega), if_pos h]
    rw [e]
    exact rt_2_z md opf x n (by omega) (by omega) _ h (rtAt_3 md opf x n (by omega) (by omega))
  · by_cases h2 : md 2 = 2
    · have e : rtM md 6 x n = rtM md 5 (x + 1) (n + 1) := by
        show rtM md 5 (if md 2 = 2 then x + 1 else x) (if md 2 = 0 then n else n + 1) = _
        rw [if_pos h2, if_neg h]
      rw [e]
      exact rt_2_t md opf x n (by omega) (by omega) _ h2 (rtAt_3 md opf (x + 1) (n + 1) (by omega) (by omega))
    · have e : rtM md 6 x n = rtM md 5 x (n + 1) := by
        show rtM md 5 (if md 2 = 2 then x + 1 else x) (if md 2 = 0 then n else n + 1) = _
        rw [if_neg h2, if_neg h]
      rw [e]
      exact rt_2_o md opf x n (by omega) (by omega) _ h h2 (rtAt_3 md opf x (n + 1) (by omega) (by omega))
theorem rt_1_z (md opf : Nat → Int) (x n : Int) (_hx : 0 ≤ x ∧ x ≤ 100) (_hn : 0 ≤ n ∧ n ≤ 100) (res : Value) (h : md 1 = 0) (hg : GoodS (dR md opf x n) Try.prog 70 (ndH md opf) res (ndH md opf) [0, 1] (xR 2)) : GoodS (dR md opf x n) Try.prog 70 (ndH md opf) res (ndH md opf) [0, 1] (xR 1) := by
  refine @goodS_seg (dR md opf x n) (dR md opf x n) Try.prog mixed ⟨[(.bin .neq 40 (sv 41) (iv 0), .bool false), (.bin .eql 40 (sv 41) (iv 2), .bool false)], [], []⟩ [] ⟨nF (md 1 : Int) 0, eF (md 1 : Int) 2, trivial⟩ trivial trivial trivial 100 16 70 _ _ _ _ _ [(0, 0), (1, 1)] [] kR .normal [(0, pt 0 0), (3, sv 56), (4, sv 57), (5, iv 2)] 38 2 ndA0 (by kernel_rfl) (by kernel_rfl) (by kernel_rfl) ?_
  exact hg
theorem rt_1_t (md opf : Nat → Int) (x n : Int) (_hx : 0 ≤ x ∧ x ≤ 100) (_hn : 0 ≤ n ∧ n ≤ 100) (res : Value) (h : md 1 = 2) (hg : GoodS (dR md opf (x + 1) (n + 1)) Try.prog 70 (ndH md opf) res (ndH md opf) [0, 1] (xR 2)) : GoodS (dR md opf x n) Try.prog 70 (ndH md opf) res (ndH md opf) [0, 1] (xR 1) := by
  refine @goodS_seg (dR md opf x n) (dR md opf (x + 1) (n + 1)) Try.prog mixed ⟨[(.bin .neq 40 (sv 41) (iv 0), .bool true), (.bin .add 3 (sv 57) (iv 1), sv 59), (.bin .eql 40 (sv 41) (iv 2), .bool true), (.bin .add 3 (sv 56) (iv 1), sv 58)], [], []⟩ [] ⟨nT (md 1 : Int) 0, asP (u := iv (n + 1)) (Eq.trans (b := some (iv (IntKind.i64.wrap (n + 1)))) (by kernel_rfl) (by rw [wrap_id (by omega) (by omega)])) (by kernel_rfl), eT (md 1 : Int) 2, asP (u := iv (x + 1)) (Eq.trans (b := some (iv (IntKind.i64.wrap (x + 1)))) (by kernel_rfl) (by rw [wrap_id (by omega) (by omega)])) (by kernel_rfl), trivial⟩ trivial trivial trivial 100 16 70 _ _ _ _ _ [(0, 0), (1, 1)] [] kR .normal [(0, pt 0 0), (3, sv 56), (4, sv 57), (5, iv 2)] 38 2 ndA0 (by kernel_rfl) (by kernel_rfl) (by kernel_rfl) ?_
  exact hg
theorem rt_1_o (md opf : Nat → Int) (x n : Int) (_hx : 0 ≤ x ∧ x ≤ 100) (_hn : 0 ≤ n ∧ n ≤ 100) (res : Value) (h : ¬ md 1 = 0) (h2 : ¬ md 1 = 2) (hg : GoodS (dR md opf x (n + 1)) Try.prog 70 (ndH md opf) res (ndH md opf) [0, 1] (xR 2)) : GoodS (dR md opf x n) Try.prog 70 (ndH md opf) res (ndH md opf) [0, 1] (xR 1) := by
  refine @goodS_seg (dR md opf x n) (dR md opf x (n + 1)) Try.prog mixed ⟨[(.bin .neq 40 (sv 41) (iv 0), .bool true), (.bin .add 3 (sv 57) (iv 1), sv 59), (.bin .eql 40 (sv 41) (iv 2), .bool false)], [], []⟩ [] ⟨nT (md 1 : Int) 0, asP (u := iv (n + 1)) (Eq.trans (b := some (iv (IntKind.i64.wrap (n + 1)))) (by kernel_rfl) (by rw [wrap_id (by omega) (by omega)])) (by kernel_rfl), eF (md 1 : Int) 2, trivial⟩ trivial trivial trivial 100 16 70 _ _ _ _ _ [(0, 0), (1, 1)] [] kR .normal [(0, pt 0 0), (3, sv 56), (4, sv 57), (5, iv 2)] 38 2 ndA0 (by kernel_rfl) (by kernel_rfl) (by kernel_rfl) ?_
  exact hg
theorem rtAt_1 (md opf : Nat → Int) (x n : Int) (hx : 0 ≤ x ∧ x ≤ 1) (hn : 0 ≤ n ∧ n ≤ 1) : GoodS (dR md opf x n) Try.prog 70 (ndH md opf) (.bool (rtM md 7 x n)) (ndH md opf) [0, 1] (xR 1) := by
  by_cases h : md 1 = 0
  · have e : rtM md 7 x n = rtM md 6 x n := by
      show rtM md 6 (if md 1 = 2 then x + 1 else x) (if md 1 = 0 then n else n + 1) = _
      rw [if_neg (by omega), if_pos h]
    rw [e]
    exact rt_1_z md opf x n (by omega) (by omega) _ h (rtAt_2 md opf x n (by omega) (by omega))
  · by_cases h2 : md 1 = 2
    · have e : rtM md 7 x n = rtM md 6 (x + 1) (n + 1) := by
        show rtM md 6 (if md 1 = 2 then x + 1 else x) (if md 1 = 0 then n else n + 1) = _
        rw [if_pos h2, if_neg h]
      rw [e]
      exact rt_1_t md opf x n (by omega) (by omega) _ h2 (rtAt_2 md opf (x + 1) (n + 1) (by omega) (by omega))
    · have e : rtM md 7 x n = rtM md 6 x (n + 1) := by
        show rtM md 6 (if md 1 = 2 then x + 1 else x) (if md 1 = 0 then n else n + 1) = _
        rw [if_neg h2, if_neg h]
      rw [e]
      exact rt_1_o md opf x n (by omega) (by omega) _ h h2 (rtAt_2 md opf x (n + 1) (by omega) (by omega))
theorem rt_0_z (md opf : Nat → Int) (x n : Int) (_hx : 0 ≤ x ∧ x ≤ 100) (_hn : 0 ≤ n ∧ n ≤ 100) (res : Value) (h : md 0 = 0) (hg : GoodS (dR md opf x n) Try.prog 70 (ndH md opf) res (ndH md opf) [0, 1] (xR 1)) : GoodS (dR md opf x n) Try.prog 70 (ndH md opf) res (ndH md opf) [0, 1] (xR 0) := by
  refine @goodS_seg (dR md opf x n) (dR md opf x n) Try.prog mixed ⟨[(.bin .neq 40 (sv 40) (iv 0), .bool false), (.bin .eql 40 (sv 40) (iv 2), .bool false)], [], []⟩ [] ⟨nF (md 0 : Int) 0, eF (md 0 : Int) 2, trivial⟩ trivial trivial trivial 100 16 70 _ _ _ _ _ [(0, 0), (1, 1)] [] kR .normal [(0, pt 0 0), (3, sv 56), (4, sv 57), (5, iv 1)] 38 2 ndA0 (by kernel_rfl) (by kernel_rfl) (by kernel_rfl) ?_
  exact hg
theorem rt_0_t (md opf : Nat → Int) (x n : Int) (_hx : 0 ≤ x ∧ x ≤ 100) (_hn : 0 ≤ n ∧ n ≤ 100) (res : Value) (h : md 0 = 2) (hg : GoodS (dR md opf (x + 1) (n + 1)) Try.prog 70 (ndH md opf) res (ndH md opf) [0, 1] (xR 1)) : GoodS (dR md opf x n) Try.prog 70 (ndH md opf) res (ndH md opf) [0, 1] (xR 0) := by
  refine @goodS_seg (dR md opf x n) (dR md opf (x + 1) (n + 1)) Try.prog mixed ⟨[(.bin .neq 40 (sv 40) (iv 0), .bool true), (.bin .add 3 (sv 57) (iv 1), sv 59), (.bin .eql 40 (sv 40) (iv 2), .bool true), (.bin .add 3 (sv 56) (iv 1), sv 58)], [], []⟩ [] ⟨nT (md 0 : Int) 0, asP (u := iv (n + 1)) (Eq.trans (b := some (iv (IntKind.i64.wrap (n + 1)))) (by kernel_rfl) (by rw [wrap_id (by omega) (by omega)])) (by kernel_rfl), eT (md 0 : Int) 2, asP (u := iv (x + 1)) (Eq.trans (b := some (iv (IntKind.i64.wrap (x + 1)))) (by kernel_rfl) (by rw [wrap_id (by omega) (by omega)])) (by kernel_rfl), trivial⟩ trivial trivial trivial 100 16 70 _ _ _ _ _ [(0, 0), (1, 1)] [] kR .normal [(0, pt 0 0), (3, sv 56), (4, sv 57), (5, iv 1)] 38 2 ndA0 (by kernel_rfl) (by kernel_rfl) (by kernel_rfl) ?_
  exact hg
theorem rt_0_o (md opf : Nat → Int) (x n : Int) (_hx : 0 ≤ x ∧ x ≤ 100) (_hn : 0 ≤ n ∧ n ≤ 100) (res : Value) (h : ¬ md 0 = 0) (h2 : ¬ md 0 = 2) (hg : GoodS (dR md opf x (n + 1)) Try.prog 70 (ndH md opf) res (ndH md opf) [0, 1] (xR 1)) : GoodS (dR md opf x n) Try.prog 70 (ndH md opf) res (ndH md opf) [0, 1] (xR 0) := by
  refine @goodS_seg (dR md opf x n) (dR md opf x (n + 1)) Try.prog mixed ⟨[(.bin .neq 40 (sv 40) (iv 0), .bool true), (.bin .add 3 (sv 57) (iv 1), sv 59), (.bin .eql 40 (sv 40) (iv 2), .bool false)], [], []⟩ [] ⟨nT (md 0 : Int) 0, asP (u := iv (n + 1)) (Eq.trans (b := some (iv (IntKind.i64.wrap (n + 1)))) (by kernel_rfl) (by rw [wrap_id (by omega) (by omega)])) (by kernel_rfl), eF (md 0 : Int) 2, trivial⟩ trivial trivial trivial 100 16 70 _ _ _ _ _ [(0, 0), (1, 1)] [] kR .normal [(0, pt 0 0), (3, sv 56), (4, sv 57), (5, iv 1)] 38 2 ndA0 (by kernel_rfl) (by kernel_rfl) (by kernel_rfl) ?_
  exact hg
theorem rtAt_0 (md opf : Nat → Int) (x n : Int) (hx : 0 ≤ x ∧ x ≤ 0) (hn : 0 ≤ n ∧ n ≤ 0) : GoodS (dR md opf x n) Try.prog 70 (ndH md opf) (.bool (rtM md 8 x n)) (ndH md opf) [0, 1] (xR 0) := by
  by_cases h : md 0 = 0
  · have e : rtM md 8 x n = rtM md 7 x n := by
      show rtM md 7 (if md 0 = 2 then x + 1 else x) (if md 0 = 0 then n else n + 1) = _
      rw [if_neg (by omega), if_pos h]
    rw [e]
    exact rt_0_z md opf x n (by omega) (by omega) _ h (rtAt_1 md opf x n (by omega) (by omega))
  · by_cases h2 : md 0 = 2
    · have e : rtM md 8 x n = rtM md 7 (x + 1) (n + 1) := by
        show rtM md 7 (if md 0 = 2 then x + 1 else x) (if md 0 = 0 then n else n + 1) = _
        rw [if_pos h2, if_neg h]
      rw [e]
      exact rt_0_t md opf x n (by omega) (by omega) _ h2 (rtAt_1 md opf (x + 1) (n + 1) (by omega) (by omega))
    · have e : rtM md 8 x n = rtM md 7 x (n + 1) := by
        show rtM md 7 (if md 0 = 2 then x + 1 else x) (if md 0 = 0 then n else n + 1) = _
        rw [if_neg h2, if_neg h]
      rw [e]
      exact rt_0_o md opf x n (by omega) (by omega) _ h h2 (rtAt_1 md opf x (n + 1) (by omega) (by omega))
def cntF (p : Nat → Bool) : Nat → Nat
  | 0 => 0
  | k + 1 => cntF p k + (if p (7 - k) = true then 1 else 0)
theorem cntF_8 (p : Nat → Bool) : cntF p 8 = cntI p 8 := by
  simp only [cntF, cntI, Nat.reduceSub]
  omega
theorem rtM_cnt (md : Nat → Int) : ∀ (k : Nat) (x n : Int), rtM md k x n = rtM md 0 (x + cntF (fun i => md i == 2) k) (n + cntF (fun i => md i != 0) k)
  | 0, x, n => by simp [cntF]
  | k + 1, x, n => by
    show rtM md k (if md (7 - k) = 2 then x + 1 else x) (if md (7 - k) = 0 then n else n + 1) = _
    rw [rtM_cnt md k]
    simp only [cntF]
    congr 1
    · by_cases h : md (7 - k) = 2
      · rw [if_pos h, if_pos (by simpa using h)]; omega
      · rw [if_neg h, if_neg (by simpa using h)]; omega
    · by_cases h : md (7 - k) = 0
      · rw [if_pos h, if_neg (by simpa using h)]; omega
      · rw [if_neg h, if_pos (by simpa using h)]; omega
theorem rtM_right (md : Nat → Int) : rtM md 8 0 0 = rightM md := by
  rw [rtM_cnt, cntF_8, cntF_8]
  unfold rightM rtM
  generalize cntI (fun i => md i == 2) 8 = a
  generalize cntI (fun i => md i != 0) 8 = b
  by_cases h1 : a ≤ 1
  · rw [if_pos (by omega)]
    by_cases h0 : a = 0
    · rw [if_pos (by omega)]; simp [h0]
    · rw [if_neg (by omega)]
      by_cases hb : b = 1
      · simp [h1, hb]
      · have : ¬ (0 + (b : Int)) = 1 := by omega
        simp [h1, h0, hb]
        omega
  · rw [if_neg (by omega)]; simp [h1]
theorem right_ctr (md opf : Nat → Int) : Ctr Try.prog 70 ndP0 (ndH md opf) (.bool (rightM md)) (ndH md opf) := by
  refine Ctr.of_goodS (d := dR md opf 0 0) [0, 1] (c0 := 2) (A0 := ndA0) (args0 := ndP0) (by kernel_rfl) (by kernel_rfl) (by kernel_rfl) ?_
  rw [← rtM_right]
  exact @goodS_seg (dR md opf 0 0) (dR md opf 0 0) Try.prog mixed ⟨[], [], []⟩ [] trivial trivial trivial trivial 100 9 70 _ _ _ _ _ [(0, 0), (1, 1)] [] kR .normal [(0, pt 0 0), (3, sv 56), (4, sv 57), (5, iv 0)] 38 2 ndA0 (by kernel_rfl) (by kernel_rfl) (by kernel_rfl) (rtAt_0 md opf 0 0 (by omega) (by omega))
end Go.Proofs.Ytjpgnjaobfbojaa
namespace Go.Proofs.Ytjpgnjaobfbojaa
open Go.Sx
def ndRow (md opf : Nat → Int) : Nat × AObj := (4, .row 59 (.lst (ndCells 0 md opf)) false)
def ndA (w : Nd) : HL := lockA 1 w.l ++ [ndRow w.mode w.op]
def ndD (w : Nd) (o : List Ord) : HL := (0, .row 73 (.lst (cells w.l (lineV 3 w.l.line))) false) :: (1, .dead) :: ndRow w.mode w.op :: (3, .row 34 (.lst (encL w.l.line)) false) :: outH o
def ordG (o : Ord) : Value := .agg #[.int .i64 o.kind, .int .i64 o.to, .int .i64 o.op, .int .i64 o.mode, .int .i64 o.node, .int .i64 o.psn]
def DC (o : Ord) (w w' : Nd) (out : List Ord) (b : Bool) : Prop := ∃ cap, CapOK out cap ∧ Ctr Try.prog 27 [.pointer (some ⟨4, 0, none⟩), ordG o] (ndA w) (.tuple #[ordV 2 cap out, .bool b]) (ndD w' out)
theorem DC.mk {o : Ord} {w w' : Nd} {out : List Ord} {b : Bool} {cap : Nat} (h : Ctr Try.prog 27 [.pointer (some ⟨4, 0, none⟩), ordG o] (ndA w) (.tuple #[ordV 2 cap out, .bool b]) (lockB w'.l out ++ [ndRow w'.mode w'.op])) (hc : CapOK out cap := by first | exact .inl rfl | exact .inr rfl | assumption) : DC o w w' out b :=
  ⟨cap, hc, (h.addDead 1 (by cases out <;> rfl)).reB fun i => match i with
    | 0 => by cases out <;> rfl
    | 1 => by cases out <;> rfl
    | 2 => by cases out <;> rfl
    | 3 => by cases out <;> rfl
    | 4 => by cases out <;> rfl
    | i + 5 => by cases out <;> rfl⟩
section
variable {s t : St} {md opf : Nat → Int} {o : List Ord} {to op mode node psn kind : Int}
theorem does_1 (ho : (0 ≤ to ∧ to < 8) ∧ 0 ≤ node ∧ node < 8) (h : MC 31 [.int .i64 to, .int .i64 op] s t o) : DC ⟨1, to, op, mode, node, psn⟩ ⟨s, md, opf⟩ ⟨t, upd md to.toNat mode, upd opf to.toNat op⟩ o (rightM (upd md to.toNat mode)) := by
  obtain ⟨cap, hcap, hN⟩ := h
  obtain ⟨kind, hkind⟩ : ∃ kind : Int, kind = 1 := ⟨_, rfl⟩
  refine DC.mk (cap := cap) ?_
  cases o with
  | nil =>
    · by_cases h0 : ((to) : Int) < (0)
      · exact ab ho
      · by_cases h1 : ((to) : Int) ≥ (8)
        · exact ab ho
        · by_cases h2 : ((node) : Int) < (0)
          · exact ab ho
          · by_cases h3 : ((node) : Int) ≥ (8)
            · exact ab ho
            · skip
              exact pth (denG s (n8 md ++ n8 opf ++ [iv to, iv op, iv mode, iv node, iv psn, iv kind] ++ n8 (upd (md) to.toNat (mode)) ++ n8 (upd (opf) to.toNat (op)) ++ tv t ++ [.bool (rightM (upd (md) to.toNat (mode)))]) rfl [(lineV 1 s.line), pt 4 (1 + to.toNat), pt 4 (9 + to.toNat), lineV 6 t.line] rfl [encL s.line, encL t.line] (rows2 (encL_plain _) (encL_plain _))) ⟨[(.bin .lss 3 (sv 56) (iv 0), .bool false), (.bin .geq 3 (sv 56) (iv 8), .bool false), (.bin .lss 3 (sv 59) (iv 0), .bool false), (.bin .geq 3 (sv 59) (iv 8), .bool false), (.ixa 57 (pt 4 1) (sv 56), ch 1), (.ixa 30 (pt 4 9) (sv 56), ch 2)], [], [([40, 1000001], { args := [ch 1, sv 58], c := 6, hids := [(0, 1)], foots := [⟨4, 0, false, .row 59 (.lst (ndSy 0 40 48)) false, .row 59 (.lst (ndSy 0 62 48)) false⟩], news := [], res := .bool false }), ([2, 1000001], { args := [ch 2, sv 57], c := 6, hids := [(0, 1)], foots := [⟨4, 0, false, .row 59 (.lst (ndSy 0 62 48)) false, .row 59 (.lst (ndSy 0 62 70)) false⟩], news := [], res := .bool false })]⟩ [(31, [(eC0 [pt 0 0, sv 56, sv 57] 6 [] 78 3 1 0 1)]), (70, [{ args := [pt 4 0], c := 7, hids := [(0, 1)], foots := [⟨4, 0, false, .row 59 (.lst (ndSy 0 62 70)) false, .row 59 (.lst (ndSy 0 62 70)) false⟩], news := [], res := sv 118 }])] ⟨qF (to < 0), qF (to ≥ 8), qF (node < 0), qF (node ≥ 8), asIxArr u57 z40 rfl (by omega) (by omega) rfl (by omega), asIxArr u30 z2 rfl (by omega) (by omega) rfl (by omega), trivial⟩ trivial ⟨st (st_md (md) (opf) (q := to.toNat) (by omega) (mode)), st (st_no (upd (md) to.toNat (mode)) (opf) (q := to.toNat) (by omega) (op)), trivial⟩ ⟨oe hN, oe (right_ctr (upd (md) to.toNat (mode)) (upd (opf) to.toNat (op))), trivial⟩ 5 (lockL [] ++ [(4, .row 59 (.lst (ndSy 0 40 48)) false)]) [pt 4 0, .agg #[iv 1, sv 56, sv 57, sv 58, sv 59, sv 60]] [(0, 0), (6, 3), (4, 4)]
  | cons x l =>
    · by_cases h0 : ((to) : Int) < (0)
      · exact ab ho
      · by_cases h1 : ((to) : Int) ≥ (8)
        · exact ab ho
        · by_cases h2 : ((node) : Int) < (0)
          · exact ab ho
          · by_cases h3 : ((node) : Int) ≥ (8)
            · exact ab ho
            · skip
              exact pth (denG s (n8 md ++ n8 opf ++ [iv to, iv op, iv mode, iv node, iv psn, iv kind] ++ n8 (upd (md) to.toNat (mode)) ++ n8 (upd (opf) to.toNat (op)) ++ tv t ++ [.bool (rightM (upd (md) to.toNat (mode)))]) rfl [(lineV 1 s.line), pt 4 (1 + to.toNat), pt 4 (9 + to.toNat), lineV 6 t.line, .slice (some ⟨7, 0, none⟩) (x :: l).length cap] rfl [encL s.line, encL t.line, encOrds (x :: l)] (rows3 (encL_plain _) (encL_plain _) (encOrds_plain _))) ⟨[(.bin .lss 3 (sv 56) (iv 0), .bool false), (.bin .geq 3 (sv 56) (iv 8), .bool false), (.bin .lss 3 (sv 59) (iv 0), .bool false), (.bin .geq 3 (sv 59) (iv 8), .bool false), (.ixa 57 (pt 4 1) (sv 56), ch 1), (.ixa 30 (pt 4 9) (sv 56), ch 2)], [], [([40, 1000001], { args := [ch 1, sv 58], c := 6, hids := [(0, 1)], foots := [⟨4, 0, false, .row 59 (.lst (ndSy 0 40 48)) false, .row 59 (.lst (ndSy 0 62 48)) false⟩], news := [], res := .bool false }), ([2, 1000001], { args := [ch 2, sv 57], c := 6, hids := [(0, 1)], foots := [⟨4, 0, false, .row 59 (.lst (ndSy 0 62 48)) false, .row 59 (.lst (ndSy 0 62 70)) false⟩], news := [], res := .bool false })]⟩ [(31, [(eC1 [pt 0 0, sv 56, sv 57] 6 [] 78 3 1 0 1 2 (ch 4))]), (70, [{ args := [pt 4 0], c := 8, hids := [(0, 1)], foots := [⟨4, 0, false, .row 59 (.lst (ndSy 0 62 70)) false, .row 59 (.lst (ndSy 0 62 70)) false⟩], news := [], res := sv 118 }])] ⟨qF (to < 0), qF (to ≥ 8), qF (node < 0), qF (node ≥ 8), asIxArr u57 z40 rfl (by omega) (by omega) rfl (by omega), asIxArr u30 z2 rfl (by omega) (by omega) rfl (by omega), trivial⟩ trivial ⟨st (st_md (md) (opf) (q := to.toNat) (by omega) (mode)), st (st_no (upd (md) to.toNat (mode)) (opf) (q := to.toNat) (by omega) (op)), trivial⟩ ⟨oe hN, oe (right_ctr (upd (md) to.toNat (mode)) (upd (opf) to.toNat (op))), trivial⟩ 5 (lockL [] ++ [(4, .row 59 (.lst (ndSy 0 40 48)) false)]) [pt 4 0, .agg #[iv 1, sv 56, sv 57, sv 58, sv 59, sv 60]] [(0, 0), (6, 3), (7, 2), (4, 4)]
theorem does_2 (ho : (0 ≤ to ∧ to < 8) ∧ 0 ≤ node ∧ node < 8) (h : MC 31 [.int .i64 node, .int .i64 op] s t o) : DC ⟨2, to, op, mode, node, psn⟩ ⟨s, md, opf⟩ ⟨t, upd (upd md to.toNat 1) node.toNat 1, upd (upd opf to.toNat op) node.toNat op⟩ o (rightM (upd (upd md to.toNat 1) node.toNat 1)) := by
  obtain ⟨cap, hcap, hN⟩ := h
  obtain ⟨kind, hkind⟩ : ∃ kind : Int, kind = 2 := ⟨_, rfl⟩
  refine DC.mk (cap := cap) ?_
  cases o with
  | nil =>
    · by_cases h0 : ((to) : Int) < (0)
      · exact ab ho
      · by_cases h1 : ((to) : Int) ≥ (8)
        · exact ab ho
        · by_cases h2 : ((node) : Int) < (0)
          · exact ab ho
          · by_cases h3 : ((node) : Int) ≥ (8)
            · exact ab ho
            · skip
              exact pth (denG s (n8 md ++ n8 opf ++ [iv to, iv op, iv mode, iv node, iv psn, iv kind] ++ n8 (upd (md) to.toNat (1)) ++ n8 (upd (opf) to.toNat (op)) ++ n8 (upd (upd (md) to.toNat (1)) node.toNat (1)) ++ n8 (upd (upd (opf) to.toNat (op)) node.toNat (op)) ++ tv t ++ [.bool (rightM (upd (upd (md) to.toNat (1)) node.toNat (1)))]) rfl [(lineV 1 s.line), pt 4 (1 + to.toNat), pt 4 (9 + to.toNat), pt 4 (1 + node.toNat), pt 4 (9 + node.toNat), lineV 6 t.line] rfl [encL s.line, encL t.line] (rows2 (encL_plain _) (encL_plain _))) ⟨[(.bin .lss 3 (sv 56) (iv 0), .bool false), (.bin .geq 3 (sv 56) (iv 8), .bool false), (.bin .lss 3 (sv 59) (iv 0), .bool false), (.bin .geq 3 (sv 59) (iv 8), .bool false), (.ixa 57 (pt 4 1) (sv 56), ch 1), (.ixa 30 (pt 4 9) (sv 56), ch 2), (.ixa 57 (pt 4 1) (sv 59), ch 3), (.ixa 30 (pt 4 9) (sv 59), ch 4)], [], [([40, 1000001], { args := [ch 1, iv 1], c := 6, hids := [(0, 1)], foots := [⟨4, 0, false, .row 59 (.lst (ndSy 0 40 48)) false, .row 59 (.lst (ndSy 0 62 48)) false⟩], news := [], res := .bool false }), ([2, 1000001], { args := [ch 2, sv 57], c := 6, hids := [(0, 1)], foots := [⟨4, 0, false, .row 59 (.lst (ndSy 0 62 48)) false, .row 59 (.lst (ndSy 0 62 70)) false⟩], news := [], res := .bool false }), ([40, 1000001], { args := [ch 3, iv 1], c := 6, hids := [(0, 1)], foots := [⟨4, 0, false, .row 59 (.lst (ndSy 0 62 70)) false, .row 59 (.lst (ndSy 0 78 70)) false⟩], news := [], res := .bool false }), ([2, 1000001], { args := [ch 4, sv 57], c := 6, hids := [(0, 1)], foots := [⟨4, 0, false, .row 59 (.lst (ndSy 0 78 70)) false, .row 59 (.lst (ndSy 0 78 86)) false⟩], news := [], res := .bool false })]⟩ [(31, [(eC0 [pt 0 0, sv 59, sv 57] 6 [] 94 5 1 0 1)]), (70, [{ args := [pt 4 0], c := 7, hids := [(0, 1)], foots := [⟨4, 0, false, .row 59 (.lst (ndSy 0 78 86)) false, .row 59 (.lst (ndSy 0 78 86)) false⟩], news := [], res := sv 134 }])] ⟨qF (to < 0), qF (to ≥ 8), qF (node < 0), qF (node ≥ 8), asIxArr u57 z40 rfl (by omega) (by omega) rfl (by omega), asIxArr u30 z2 rfl (by omega) (by omega) rfl (by omega), asIxArr u57 z40 rfl (by omega) (by omega) rfl (by omega), asIxArr u30 z2 rfl (by omega) (by omega) rfl (by omega), trivial⟩ trivial ⟨st (st_md (md) (opf) (q := to.toNat) (by omega) (1)), st (st_no (upd (md) to.toNat (1)) (opf) (q := to.toNat) (by omega) (op)), st (st_md (upd (md) to.toNat (1)) (upd (opf) to.toNat (op)) (q := node.toNat) (by omega) (1)), st (st_no (upd (upd (md) to.toNat (1)) node.toNat (1)) (upd (opf) to.toNat (op)) (q := node.toNat) (by omega) (op)), trivial⟩ ⟨oe hN, oe (right_ctr (upd (upd (md) to.toNat (1)) node.toNat (1)) (upd (upd (opf) to.toNat (op)) node.toNat (op))), trivial⟩ 5 (lockL [] ++ [(4, .row 59 (.lst (ndSy 0 40 48)) false)]) [pt 4 0, .agg #[iv 2, sv 56, sv 57, sv 58, sv 59, sv 60]] [(0, 0), (6, 3), (4, 4)]
  | cons x l =>
    · by_cases h0 : ((to) : Int) < (0)
      · exact ab ho
      · by_cases h1 : ((to) : Int) ≥ (8)
        · exact ab ho
        · by_cases h2 : ((node) : Int) < (0)
          · exact ab ho
          · by_cases h3 : ((node) : Int) ≥ (8)
            · exact ab ho
            · skip
              exact pth (denG s (n8 md ++ n8 opf ++ [iv to, iv op, iv mode, iv node, iv psn, iv kind] ++ n8 (upd (md) to.toNat (1)) ++ n8 (upd (opf) to.toNat (op)) ++ n8 (upd (upd (md) to.toNat (1)) node.toNat (1)) ++ n8 (upd (upd (opf) to.toNat (op)) node.toNat (op)) ++ tv t ++ [.bool (rightM (upd (upd (md) to.toNat (1)) node.toNat (1)))]) rfl [(lineV 1 s.line), pt 4 (1 + to.toNat), pt 4 (9 + to.toNat), pt 4 (1 + node.toNat), pt 4 (9 + node.toNat), lineV 6 t.line, .slice (some ⟨7, 0, none⟩) (x :: l).length cap] rfl [encL s.line, encL t.line, encOrds (x :: l)] (rows3 (encL_plain _) (encL_plain _) (encOrds_plain _))) ⟨[(.bin .lss 3 (sv 56) (iv 0), .bool false), (.bin .geq 3 (sv 56) (iv 8), .bool false), (.bin .lss 3 (sv 59) (iv 0), .bool false), (.bin .geq 3 (sv 59) (iv 8), .bool false), (.ixa 57 (pt 4 1) (sv 56), ch 1), (.ixa 30 (pt 4 9) (sv 56), ch 2), (.ixa 57 (pt 4 1) (sv 59), ch 3), (.ixa 30 (pt 4 9) (sv 59), ch 4)], [], [([40, 1000001], { args := [ch 1, iv 1], c := 6, hids := [(0, 1)], foots := [⟨4, 0, false, .row 59 (.lst (ndSy 0 40 48)) false, .row 59 (.lst (ndSy 0 62 48)) false⟩], news := [], res := .bool false }), ([2, 1000001], { args := [ch 2, sv 57], c := 6, hids := [(0, 1)], foots := [⟨4, 0, false, .row 59 (.lst (ndSy 0 62 48)) false, .row 59 (.lst (ndSy 0 62 70)) false⟩], news := [], res := .bool false }), ([40, 1000001], { args := [ch 3, iv 1], c := 6, hids := [(0, 1)], foots := [⟨4, 0, false, .row 59 (.lst (ndSy 0 62 70)) false, .row 59 (.lst (ndSy 0 78 70)) false⟩], news := [], res := .bool false }), ([2, 1000001], { args := [ch 4, sv 57], c := 6, hids := [(0, 1)], foots := [⟨4, 0, false, .row 59 (.lst (ndSy 0 78 70)) false, .row 59 (.lst (ndSy 0 78 86)) false⟩], news := [], res := .bool false })]⟩ [(31, [(eC1 [pt 0 0, sv 59, sv 57] 6 [] 94 5 1 0 1 2 (ch 6))]), (70, [{ args := [pt 4 0], c := 8, hids := [(0, 1)], foots := [⟨4, 0, false, .row 59 (.lst (ndSy 0 78 86)) false, .row 59 (.lst (ndSy 0 78 86)) false⟩], news := [], res := sv 134 }])] ⟨qF (to < 0), qF (to ≥ 8), qF (node < 0), qF (node ≥ 8), asIxArr u57 z40 rfl (by omega) (by omega) rfl (by omega), asIxArr u30 z2 rfl (by omega) (by omega) rfl (by omega), asIxArr u57 z40 rfl (by omega) (by omega) rfl (by omega), asIxArr u30 z2 rfl (by omega) (by omega) rfl (by omega), trivial⟩ trivial ⟨st (st_md (md) (opf) (q := to.toNat) (by omega) (1)), st (st_no (upd (md) to.toNat (1)) (opf) (q := to.toNat) (by omega) (op)), st (st_md (upd (md) to.toNat (1)) (upd (opf) to.toNat (op)) (q := node.toNat) (by omega) (1)), st (st_no (upd (upd (md) to.toNat (1)) node.toNat (1)) (upd (opf) to.toNat (op)) (q := node.toNat) (by omega) (op)), trivial⟩ ⟨oe hN, oe (right_ctr (upd (upd (md) to.toNat (1)) node.toNat (1)) (upd (upd (opf) to.toNat (op)) node.toNat (op))), trivial⟩ 5 (lockL [] ++ [(4, .row 59 (.lst (ndSy 0 40 48)) false)]) [pt 4 0, .agg #[iv 2, sv 56, sv 57, sv 58, sv 59, sv 60]] [(0, 0), (6, 3), (7, 2), (4, 4)]
theorem does_3 (ho : (0 ≤ to ∧ to < 8) ∧ 0 ≤ node ∧ node < 8) (h : MC 31 [.int .i64 node, .int .i64 op] s t o) : DC ⟨3, to, op, mode, node, psn⟩ ⟨s, md, opf⟩ ⟨t, upd (upd md to.toNat 0) node.toNat 2, upd opf node.toNat op⟩ o (rightM (upd (upd md to.toNat 0) node.toNat 2)) := by
  obtain ⟨cap, hcap, hN⟩ := h
  obtain ⟨kind, hkind⟩ : ∃ kind : Int, kind = 3 := ⟨_, rfl⟩
  refine DC.mk (cap := cap) ?_
  cases o with
  | nil =>
    · by_cases h0 : ((to) : Int) < (0)
      · exact ab ho
      · by_cases h1 : ((to) : Int) ≥ (8)
        · exact ab ho
        · by_cases h2 : ((node) : Int) < (0)
          · exact ab ho
          · by_cases h3 : ((node) : Int) ≥ (8)
            · exact ab ho
            · skip
              exact pth (denG s (n8 md ++ n8 opf ++ [iv to, iv op, iv mode, iv node, iv psn, iv kind] ++ n8 (upd (md) to.toNat (0)) ++ n8 (upd (upd (md) to.toNat (0)) node.toNat (2)) ++ n8 (upd (opf) node.toNat (op)) ++ tv t ++ [.bool (rightM (upd (upd (md) to.toNat (0)) node.toNat (2)))]) rfl [(lineV 1 s.line), pt 4 (1 + to.toNat), pt 4 (1 + node.toNat), pt 4 (9 + node.toNat), lineV 6 t.line] rfl [encL s.line, encL t.line] (rows2 (encL_plain _) (encL_plain _))) ⟨[(.bin .lss 3 (sv 56) (iv 0), .bool false), (.bin .geq 3 (sv 56) (iv 8), .bool false), (.bin .lss 3 (sv 59) (iv 0), .bool false), (.bin .geq 3 (sv 59) (iv 8), .bool false), (.ixa 57 (pt 4 1) (sv 56), ch 1), (.ixa 57 (pt 4 1) (sv 59), ch 2), (.ixa 30 (pt 4 9) (sv 59), ch 3)], [], [([40, 1000001], { args := [ch 1, iv 0], c := 6, hids := [(0, 1)], foots := [⟨4, 0, false, .row 59 (.lst (ndSy 0 40 48)) false, .row 59 (.lst (ndSy 0 62 48)) false⟩], news := [], res := .bool false }), ([40, 1000001], { args := [ch 2, iv 2], c := 6, hids := [(0, 1)], foots := [⟨4, 0, false, .row 59 (.lst (ndSy 0 62 48)) false, .row 59 (.lst (ndSy 0 70 48)) false⟩], news := [], res := .bool false }), ([2, 1000001], { args := [ch 3, sv 57], c := 6, hids := [(0, 1)], foots := [⟨4, 0, false, .row 59 (.lst (ndSy 0 70 48)) false, .row 59 (.lst (ndSy 0 70 78)) false⟩], news := [], res := .bool false })]⟩ [(31, [(eC0 [pt 0 0, sv 59, sv 57] 6 [] 86 4 1 0 1)]), (70, [{ args := [pt 4 0], c := 7, hids := [(0, 1)], foots := [⟨4, 0, false, .row 59 (.lst (ndSy 0 70 78)) false, .row 59 (.lst (ndSy 0 70 78)) false⟩], news := [], res := sv 126 }])] ⟨qF (to < 0), qF (to ≥ 8), qF (node < 0), qF (node ≥ 8), asIxArr u57 z40 rfl (by omega) (by omega) rfl (by omega), asIxArr u57 z40 rfl (by omega) (by omega) rfl (by omega), asIxArr u30 z2 rfl (by omega) (by omega) rfl (by omega), trivial⟩ trivial ⟨st (st_md (md) (opf) (q := to.toNat) (by omega) (0)), st (st_md (upd (md) to.toNat (0)) (opf) (q := node.toNat) (by omega) (2)), st (st_no (upd (upd (md) to.toNat (0)) node.toNat (2)) (opf) (q := node.toNat) (by omega) (op)), trivial⟩ ⟨oe hN, oe (right_ctr (upd (upd (md) to.toNat (0)) node.toNat (2)) (upd (opf) node.toNat (op))), trivial⟩ 5 (lockL [] ++ [(4, .row 59 (.lst (ndSy 0 40 48)) false)]) [pt 4 0, .agg #[iv 3, sv 56, sv 57, sv 58, sv 59, sv 60]] [(0, 0), (6, 3), (4, 4)]
  | cons x l =>
    · by_cases h0 : ((to) : Int) < (0)
      · exact ab ho
      · by_cases h1 : ((to) : Int) ≥ (8)
        · exact ab ho
        · by_cases h2 : ((node) : Int) < (0)
          · exact ab ho
          · by_cases h3 : ((node) : Int) ≥ (8)
            · exact ab ho
            · skip
              exact pth (denG s (n8 md ++ n8 opf ++ [iv to, iv op, iv mode, iv node, iv psn, iv kind] ++ n8 (upd (md) to.toNat (0)) ++ n8 (upd (upd (md) to.toNat (0)) node.toNat (2)) ++ n8 (upd (opf) node.toNat (op)) ++ tv t ++ [.bool (rightM (upd (upd (md) to.toNat (0)) node.toNat (2)))]) rfl [(lineV 1 s.line), pt 4 (1 + to.toNat), pt 4 (1 + node.toNat), pt 4 (9 + node.toNat), lineV 6 t.line, .slice (some ⟨7, 0, none⟩) (x :: l).length cap] rfl [encL s.line, encL t.line, encOrds (x :: l)] (rows3 (encL_plain _) (encL_plain _) (encOrds_plain _))) ⟨[(.bin .lss 3 (sv 56) (iv 0), .bool false), (.bin .geq 3 (sv 56) (iv 8), .bool false), (.bin .lss 3 (sv 59) (iv 0), .bool false), (.bin .geq 3 (sv 59) (iv 8), .bool false), (.ixa 57 (pt 4 1) (sv 56), ch 1), (.ixa 57 (pt 4 1) (sv 59), ch 2), (.ixa 30 (pt 4 9) (sv 59), ch 3)], [], [([40, 1000001], { args := [ch 1, iv 0], c := 6, hids := [(0, 1)], foots := [⟨4, 0, false, .row 59 (.lst (ndSy 0 40 48)) false, .row 59 (.lst (ndSy 0 62 48)) false⟩], news := [], res := .bool false }), ([40, 1000001], { args := [ch 2, iv 2], c := 6, hids := [(0, 1)], foots := [⟨4, 0, false, .row 59 (.lst (ndSy 0 62 48)) false, .row 59 (.lst (ndSy 0 70 48)) false⟩], news := [], res := .bool false }), ([2, 1000001], { args := [ch 3, sv 57], c := 6, hids := [(0, 1)], foots := [⟨4, 0, false, .row 59 (.lst (ndSy 0 70 48)) false, .row 59 (.lst (ndSy 0 70 78)) false⟩], news := [], res := .bool false })]⟩ [(31, [(eC1 [pt 0 0, sv 59, sv 57] 6 [] 86 4 1 0 1 2 (ch 5))]), (70, [{ args := [pt 4 0], c := 8, hids := [(0, 1)], foots := [⟨4, 0, false, .row 59 (.lst (ndSy 0 70 78)) false, .row 59 (.lst (ndSy 0 70 78)) false⟩], news := [], res := sv 126 }])] ⟨qF (to < 0), qF (to ≥ 8), qF (node < 0), qF (node ≥ 8), asIxArr u57 z40 rfl (by omega) (by omega) rfl (by omega), asIxArr u57 z40 rfl (by omega) (by omega) rfl (by omega), asIxArr u30 z2 rfl (by omega) (by omega) rfl (by omega), trivial⟩ trivial ⟨st (st_md (md) (opf) (q := to.toNat) (by omega) (0)), st (st_md (upd (md) to.toNat (0)) (opf) (q := node.toNat) (by omega) (2)), st (st_no (upd (upd (md) to.toNat (0)) node.toNat (2)) (opf) (q := node.toNat) (by omega) (op)), trivial⟩ ⟨oe hN, oe (right_ctr (upd (upd (md) to.toNat (0)) node.toNat (2)) (upd (opf) node.toNat (op))), trivial⟩ 5 (lockL [] ++ [(4, .row 59 (.lst (ndSy 0 40 48)) false)]) [pt 4 0, .agg #[iv 3, sv 56, sv 57, sv 58, sv 59, sv 60]] [(0, 0), (6, 3), (7, 2), (4, 4)]
theorem does_4 (ho : (0 ≤ to ∧ to < 8) ∧ 0 ≤ node ∧ node < 8) (h : MC 30 [.int .i64 to, .int .i64 op] s t o) : DC ⟨4, to, op, mode, node, psn⟩ ⟨s, md, opf⟩ ⟨t, upd md to.toNat 0, opf⟩ o (rightM (upd md to.toNat 0)) := by
  obtain ⟨cap, hcap, hN⟩ := h
  obtain ⟨kind, hkind⟩ : ∃ kind : Int, kind = 4 := ⟨_, rfl⟩
  refine DC.mk (cap := cap) ?_
  cases o with
  | nil =>
    · by_cases h0 : ((to) : Int) < (0)
      · exact ab ho
      · by_cases h1 : ((to) : Int) ≥ (8)
        · exact ab ho
        · by_cases h2 : ((node) : Int) < (0)
          · exact ab ho
          · by_cases h3 : ((node) : Int) ≥ (8)
            · exact ab ho
            · skip
              exact pth (denG s (n8 md ++ n8 opf ++ [iv to, iv op, iv mode, iv node, iv psn, iv kind] ++ n8 (upd (md) to.toNat (0)) ++ tv t ++ [.bool (rightM (upd (md) to.toNat (0)))]) rfl [(lineV 1 s.line), pt 4 (1 + to.toNat), lineV 6 t.line] rfl [encL s.line, encL t.line] (rows2 (encL_plain _) (encL_plain _))) ⟨[(.bin .lss 3 (sv 56) (iv 0), .bool false), (.bin .geq 3 (sv 56) (iv 8), .bool false), (.bin .lss 3 (sv 59) (iv 0), .bool false), (.bin .geq 3 (sv 59) (iv 8), .bool false), (.ixa 57 (pt 4 1) (sv 56), ch 1)], [], [([40, 1000001], { args := [ch 1, iv 0], c := 6, hids := [(0, 1)], foots := [⟨4, 0, false, .row 59 (.lst (ndSy 0 40 48)) false, .row 59 (.lst (ndSy 0 62 48)) false⟩], news := [], res := .bool false })]⟩ [(30, [(eC0 [pt 0 0, sv 56, sv 57] 6 [] 70 2 1 0 1)]), (70, [{ args := [pt 4 0], c := 7, hids := [(0, 1)], foots := [⟨4, 0, false, .row 59 (.lst (ndSy 0 62 48)) false, .row 59 (.lst (ndSy 0 62 48)) false⟩], news := [], res := sv 110 }])] ⟨qF (to < 0), qF (to ≥ 8), qF (node < 0), qF (node ≥ 8), asIxArr u57 z40 rfl (by omega) (by omega) rfl (by omega), trivial⟩ trivial ⟨st (st_md (md) (opf) (q := to.toNat) (by omega) (0)), trivial⟩ ⟨oe hN, oe (right_ctr (upd (md) to.toNat (0)) (opf)), trivial⟩ 5 (lockL [] ++ [(4, .row 59 (.lst (ndSy 0 40 48)) false)]) [pt 4 0, .agg #[iv 4, sv 56, sv 57, sv 58, sv 59, sv 60]] [(0, 0), (6, 3), (4, 4)]
  | cons x l =>
    · by_cases h0 : ((to) : Int) < (0)
      · exact ab ho
      · by_cases h1 : ((to) : Int) ≥ (8)
        · exact ab ho
        · by_cases h2 : ((node) : Int) < (0)
          · exact ab ho
          · by_cases h3 : ((node) : Int) ≥ (8)
            · exact ab ho
            · skip
              exact pth (denG s (n8 md ++ n8 opf ++ [iv to, iv op, iv mode, iv node, iv psn, iv kind] ++ n8 (upd (md) to.toNat (0)) ++ tv t ++ [.bool (rightM (upd (md) to.toNat (0)))]) rfl [(lineV 1 s.line), pt 4 (1 + to.toNat), lineV 6 t.line, .slice (some ⟨7, 0, none⟩) (x :: l).length cap] rfl [encL s.line, encL t.line, encOrds (x :: l)] (rows3 (encL_plain _) (encL_plain _) (encOrds_plain _))) ⟨[(.bin .lss 3 (sv 56) (iv 0), .bool false), (.bin .geq 3 (sv 56) (iv 8), .bool false), (.bin .lss 3 (sv 59) (iv 0), .bool false), (.bin .geq 3 (sv 59) (iv 8), .bool false), (.ixa 57 (pt 4 1) (sv 56), ch 1)], [], [([40, 1000001], { args := [ch 1, iv 0], c := 6, hids := [(0, 1)], foots := [⟨4, 0, false, .row 59 (.lst (ndSy 0 40 48)) false, .row 59 (.lst (ndSy 0 62 48)) false⟩], news := [], res := .bool false })]⟩ [(30, [(eC1 [pt 0 0, sv 56, sv 57] 6 [] 70 2 1 0 1 2 (ch 3))]), (70, [{ args := [pt 4 0], c := 8, hids := [(0, 1)], foots := [⟨4, 0, false, .row 59 (.lst (ndSy 0 62 48)) false, .row 59 (.lst (ndSy 0 62 48)) false⟩], news := [], res := sv 110 }])] ⟨qF (to < 0), qF (to ≥ 8), qF (node < 0), qF (node ≥ 8), asIxArr u57 z40 rfl (by omega) (by omega) rfl (by omega), trivial⟩ trivial ⟨st (st_md (md) (opf) (q := to.toNat) (by omega) (0)), trivial⟩ ⟨oe hN, oe (right_ctr (upd (md) to.toNat (0)) (opf)), trivial⟩ 5 (lockL [] ++ [(4, .row 59 (.lst (ndSy 0 40 48)) false)]) [pt 4 0, .agg #[iv 4, sv 56, sv 57, sv 58, sv 59, sv 60]] [(0, 0), (6, 3), (7, 2), (4, 4)]
theorem does_5 (ho : (0 ≤ to ∧ to < 8) ∧ 0 ≤ node ∧ node < 8) (h : MC 32 [.int .i64 to, .int .i64 (opf to.toNat), .int .i64 1] s t o) : DC ⟨5, to, op, mode, node, psn⟩ ⟨s, md, opf⟩ ⟨t, md, opf⟩ o (rightM (md)) := by
  obtain ⟨cap, hcap, hN⟩ := h
  obtain ⟨kind, hkind⟩ : ∃ kind : Int, kind = 5 := ⟨_, rfl⟩
  refine DC.mk (cap := cap) ?_
  cases o with
  | nil =>
    · by_cases h0 : ((to) : Int) < (0)
      · exact ab ho
      · by_cases h1 : ((to) : Int) ≥ (8)
        · exact ab ho
        · by_cases h2 : ((node) : Int) < (0)
          · exact ab ho
          · by_cases h3 : ((node) : Int) ≥ (8)
            · exact ab ho
            · skip
              exact pth (denG s (n8 md ++ n8 opf ++ [iv to, iv op, iv mode, iv node, iv psn, iv kind, iv ((opf) to.toNat)] ++ tv t ++ [.bool (rightM (md))]) rfl [(lineV 1 s.line), pt 4 (9 + to.toNat), lineV 6 t.line] rfl [encL s.line, encL t.line] (rows2 (encL_plain _) (encL_plain _))) ⟨[(.bin .lss 3 (sv 56) (iv 0), .bool false), (.bin .geq 3 (sv 56) (iv 8), .bool false), (.bin .lss 3 (sv 59) (iv 0), .bool false), (.bin .geq 3 (sv 59) (iv 8), .bool false), (.ixa 30 (pt 4 9) (sv 56), ch 1)], [], [([2, 1000000], { args := [ch 1], c := 6, hids := [(0, 1)], foots := [⟨4, 0, true, .row 59 (.lst (ndSy 0 40 48)) false, .row 59 (.lst (ndSy 0 40 48)) false⟩], news := [], res := sv 62 })]⟩ [(32, [(eC0 [pt 0 0, sv 56, sv 62, iv 1] 6 [] 63 2 1 0 1)]), (70, [{ args := [pt 4 0], c := 7, hids := [(0, 1)], foots := [⟨4, 0, false, .row 59 (.lst (ndSy 0 40 48)) false, .row 59 (.lst (ndSy 0 40 48)) false⟩], news := [], res := sv 103 }])] ⟨qF (to < 0), qF (to ≥ 8), qF (node < 0), qF (node ≥ 8), asIxArr u30 z2 rfl (by omega) (by omega) rfl (by omega), trivial⟩ trivial ⟨LdOk.mk2 (ld_no (md) (opf) (q := to.toNat) (by omega)) rfl (by kernel_rfl) (ndR_sub (md) (opf)) (by kernel_rfl), trivial⟩ ⟨oe hN, oe (right_ctr (md) (opf)), trivial⟩ 5 (lockL [] ++ [(4, .row 59 (.lst (ndSy 0 40 48)) false)]) [pt 4 0, .agg #[iv 5, sv 56, sv 57, sv 58, sv 59, sv 60]] [(0, 0), (6, 3), (4, 4)]
  | cons x l =>
    · by_cases h0 : ((to) : Int) < (0)
      · exact ab ho
      · by_cases h1 : ((to) : Int) ≥ (8)
        · exact ab ho
        · by_cases h2 : ((node) : Int) < (0)
          · exact ab ho
          · by_cases h3 : ((node) : Int) ≥ (8)
            · exact ab ho
            · skip
              exact pth (denG s (n8 md ++ n8 opf ++ [iv to, iv op, iv mode, iv node, iv psn, iv kind, iv ((opf) to.toNat)] ++ tv t ++ [.bool (rightM (md))]) rfl [(lineV 1 s.line), pt 4 (9 + to.toNat), lineV 6 t.line, .slice (some ⟨7, 0, none⟩) (x :: l).length cap] rfl [encL s.line, encL t.line, encOrds (x :: l)] (rows3 (encL_plain _) (encL_plain _) (encOrds_plain _))) ⟨[(.bin .lss 3 (sv 56) (iv 0), .bool false), (.bin .geq 3 (sv 56) (iv 8), .bool false), (.bin .lss 3 (sv 59) (iv 0), .bool false), (.bin .geq 3 (sv 59) (iv 8), .bool false), (.ixa 30 (pt 4 9) (sv 56), ch 1)], [], [([2, 1000000], { args := [ch 1], c := 6, hids := [(0, 1)], foots := [⟨4, 0, true, .row 59 (.lst (ndSy 0 40 48)) false, .row 59 (.lst (ndSy 0 40 48)) false⟩], news := [], res := sv 62 })]⟩ [(32, [(eC1 [pt 0 0, sv 56, sv 62, iv 1] 6 [] 63 2 1 0 1 2 (ch 3))]), (70, [{ args := [pt 4 0], c := 8, hids := [(0, 1)], foots := [⟨4, 0, false, .row 59 (.lst (ndSy 0 40 48)) false, .row 59 (.lst (ndSy 0 40 48)) false⟩], news := [], res := sv 103 }])] ⟨qF (to < 0), qF (to ≥ 8), qF (node < 0), qF (node ≥ 8), asIxArr u30 z2 rfl (by omega) (by omega) rfl (by omega), trivial⟩ trivial ⟨LdOk.mk2 (ld_no (md) (opf) (q := to.toNat) (by omega)) rfl (by kernel_rfl) (ndR_sub (md) (opf)) (by kernel_rfl), trivial⟩ ⟨oe hN, oe (right_ctr (md) (opf)), trivial⟩ 5 (lockL [] ++ [(4, .row 59 (.lst (ndSy 0 40 48)) false)]) [pt 4 0, .agg #[iv 5, sv 56, sv 57, sv 58, sv 59, sv 60]] [(0, 0), (6, 3), (7, 2), (4, 4)]
theorem does_6 (ho : ((0 ≤ to ∧ to < 8) ∧ 0 ≤ node ∧ node < 8) ∧ kind ≠ 1 ∧ kind ≠ 2 ∧ kind ≠ 3 ∧ kind ≠ 4 ∧ kind ≠ 5) : DC ⟨kind, to, op, mode, node, psn⟩ ⟨s, md, opf⟩ ⟨s, md, opf⟩ [] true := by
  refine DC.mk (cap := 0) ?_
  · by_cases h0 : ((to) : Int) < (0)
    · exact ab ho
    · by_cases h1 : ((to) : Int) ≥ (8)
      · exact ab ho
      · by_cases h2 : ((node) : Int) < (0)
        · exact ab ho
        · by_cases h3 : ((node) : Int) ≥ (8)
          · exact ab ho
          · by_cases h4 : ((kind) : Int) = (1)
            · exact ab ho
            · by_cases h5 : ((kind) : Int) = (2)
              · exact ab ho
              · by_cases h6 : ((kind) : Int) = (3)
                · exact ab ho
                · by_cases h7 : ((kind) : Int) = (4)
                  · exact ab ho
                  · by_cases h8 : ((kind) : Int) = (5)
                    · exact ab ho
                    · skip
                      exact pth (denG s (n8 md ++ n8 opf ++ [iv to, iv op, iv mode, iv node, iv psn, iv kind]) rfl [(lineV 1 s.line)] rfl [encL s.line] (rows1 (encL_plain _))) ⟨[(.bin .lss 3 (sv 56) (iv 0), .bool false), (.bin .geq 3 (sv 56) (iv 8), .bool false), (.bin .lss 3 (sv 59) (iv 0), .bool false), (.bin .geq 3 (sv 59) (iv 8), .bool false), (.bin .eql 43 (sv 61) (iv 1), .bool false), (.bin .eql 43 (sv 61) (iv 2), .bool false), (.bin .eql 43 (sv 61) (iv 3), .bool false), (.bin .eql 43 (sv 61) (iv 4), .bool false), (.bin .eql 43 (sv 61) (iv 5), .bool false)], [], []⟩ [] ⟨qF (to < 0), qF (to ≥ 8), qF (node < 0), qF (node ≥ 8), eF kind 1, eF kind 2, eF kind 3, eF kind 4, eF kind 5, trivial⟩ trivial trivial trivial 5 (lockL [] ++ [(4, .row 59 (.lst (ndSy 0 40 48)) false)]) [pt 4 0, .agg #[sv 61, sv 56, sv 57, sv 58, sv 59, sv 60]] [(0, 0), (1, 3), (4, 4)]
end
theorem does_ctr {w : Nd} {o : Ord} (hf : Fine w) (hk : (doesM w o).2.2 = true) : DC o w (doesM w o).1 (doesM w o).2.1 (doesM w o).2.2 := by
  obtain ⟨s, md, opf⟩ := w
  obtain ⟨kind, to, op, mode, node, psn⟩ := o
  unfold doesM at hk ⊢
  by_cases h0 : (0 ≤ to ∧ to < 8) ∧ 0 ≤ node ∧ node < 8
  · simp only [h0, and_self, if_true] at hk ⊢
    by_cases h1 : kind = 1
    · subst h1
      simp only [if_true]
      exact does_1 h0 (got_ctr hf.post hf.room).1
    · simp only [h1, if_false]
      by_cases h2 : kind = 2
      · subst h2
        simp only [if_true]
        exact does_2 h0 (got_ctr hf.post hf.room).1
      · simp only [h2, if_false]
        by_cases h3 : kind = 3
        · subst h3
          simp only [if_true]
          exact does_3 h0 (got_ctr hf.post hf.room).1
        · simp only [h3, if_false]
          by_cases h4 : kind = 4
          · subst h4
            simp only [if_true]
            exact does_4 h0 (gone_ctr hf.post hf.room).1
          · simp only [h4, if_false]
            by_cases h5 : kind = 5
            · subst h5
              simp only [if_true]
              exact does_5 h0 (wrote_ctr hf.post hf.room).1
            · simp only [h5, if_false]
              exact does_6 ⟨h0, h1, h2, h3, h4, h5⟩
  · simp only [h0, if_false] at hk
    cases hk
end Go.Proofs.Ytjpgnjaobfbojaa

import Derived.Test.YtjpgnjaobfbojaaQm
namespace Go.Proofs.Ytjpgnjaobfbojaa
open Go.Sx
set_option maxRecDepth 20000
def wEq (w v : Int × Int) : Bool := (w.1 == v.1) && ((w.2 == v.2) && true)
theorem wEq_eq {w v : Int × Int} (h : w = v) : wEq w v = true := by subst h; simp [wEq]
theorem wEq_iff {w v : Int × Int} : wEq w v = true ↔ w = v := by
  refine ⟨fun h => ?_, wEq_eq⟩
  simp only [wEq, Bool.and_true, Bool.and_eq_true, beq_iff_eq] at h
  exact Prod.ext h.1 h.2
theorem wEq_ne {w v : Int × Int} (h : w ≠ v) : wEq w v = false := Bool.eq_false_iff.2 fun e => h (wEq_iff.1 e)
def bq8 (f g : Nat → Bool) : Bool := (f 0 == g 0) && ((f 1 == g 1) && ((f 2 == g 2) && ((f 3 == g 3) && ((f 4 == g 4) && ((f 5 == g 5) && ((f 6 == g 6) && ((f 7 == g 7) && true)))))))
def v40 (t : St) : List Value := cells t (.bool false)
def eqA : HL := [(1, .orow 34 0 true), (2, .orow 34 1 true)]
def eqH (l m : List (Int × Int)) : HL := [(1, .row 34 (.lst (encL l)) true), (2, .row 34 (.lst (encL m)) true)]
noncomputable abbrev dEQ (l m : List (Int × Int)) (i : Nat) : Den := denR newS [.int .i64 (l.length : Nat), .int .i64 (m.length : Nat), .int .i64 (i : Nat)] rfl [.v (lineV 1 l), .v (lineV 2 m)] rfl [encL l, encL m] (rows2 (encL_plain _) (encL_plain _))
noncomputable def kEQ : List KI := ((ksteps (@rec ⟨[], [], []⟩ Try.prog noTbl 100) 11 (startC Try.prog 71 [.slice none 0 0, .slice none 0 0] 3 [])).map (·.k)).getD []
noncomputable def xEQ : Cfg := headC kEQ .normal [(0, .chan (some 0)), (1, .chan (some 1)), (12, sv 40), (13, sv 42)] 26 3 eqA
section
variable {l m : List (Int × Int)} {i : Nat} {w v : Int × Int}
theorem eq_ne (he : l.length ≠ m.length) : Ctr Try.prog 71 [lineV 1 l, lineV 2 m] (eqH l m) (.bool false) [] := by
  · skip
    exact pth (denR newS [iv (l.length : Nat), iv (m.length : Nat)] rfl [.v (lineV 1 l), .v (lineV 2 m)] rfl [encL l, encL m] (rows2 (encL_plain _) (encL_plain _))) ⟨[(.len 31 (ch 0), sv 40), (.len 31 (ch 1), sv 41), (.bin .neq 3 (sv 40) (sv 41), .bool true)], [], []⟩ [] ⟨asLen u31 rfl (by kernel_rfl), asLen u31 rfl (by kernel_rfl), nT (l.length : Int) (m.length : Int), trivial⟩ trivial trivial trivial 3 (eqA) [ch 0, ch 1] []
theorem eq_head {res : Value} (he : l.length = m.length) (hL : GoodS (dEQ l m 0) Try.prog 71 (eqH l m) res [] [] xEQ) : Ctr Try.prog 71 [lineV 1 l, lineV 2 m] (eqH l m) res [] := by
  · refine Ctr.of_goodS (d := (denR newS [iv (l.length : Nat), iv (m.length : Nat)] rfl [.v (lineV 1 l), .v (lineV 2 m)] rfl [encL l, encL m] (rows2 (encL_plain _) (encL_plain _)))) [] (c0 := 3) (A0 := eqA) (args0 := [ch 0, ch 1]) (by kernel_rfl) (by kernel_rfl) (by kernel_rfl) ?_
    exact @goodS_seg (denR newS [iv (l.length : Nat), iv (m.length : Nat)] rfl [.v (lineV 1 l), .v (lineV 2 m)] rfl [encL l, encL m] (rows2 (encL_plain _) (encL_plain _))) (dEQ l m 0) Try.prog mixed ⟨[(.len 31 (ch 0), sv 40), (.len 31 (ch 1), sv 41), (.bin .neq 3 (sv 40) (sv 41), .bool false)], [], []⟩ [] ⟨asLen u31 rfl (by kernel_rfl), asLen u31 rfl (by kernel_rfl), nF (l.length : Int) (m.length : Int), trivial⟩ trivial trivial trivial 100 11 71 _ _ _ _ _ [(1, 1), (2, 2)] [] _ _ _ _ _ _ (by kernel_rfl) (by kernel_rfl) (by kernel_rfl) hL
theorem eq_hit (_hl : l.length < 1000000) (he : l.length = m.length) (hi : i < l.length) (hx : l[i]? = some w) (hy : m[i]? = some v) (hne : w ≠ v) : GoodS (dEQ l m i) Try.prog 71 (eqH l m) (.bool false) [] [] xEQ := by
  · refine goodS_den (d2 := (denR newS [iv (l.length : Nat), iv (m.length : Nat), iv (i : Nat), iv w.1, iv w.2, iv v.1, iv v.2] rfl [.v (lineV 1 l), .v (lineV 2 m), .v (pt 1 (i * 2)), .v (pt 2 (i * 2))] rfl [encL l, encL m] (rows2 (encL_plain _) (encL_plain _)))) mixed (by kernel_rfl) (by kernel_rfl) (by kernel_rfl) ?_
    exact @goodS_fin (denR newS [iv (l.length : Nat), iv (m.length : Nat), iv (i : Nat), iv w.1, iv w.2, iv v.1, iv v.2] rfl [.v (lineV 1 l), .v (lineV 2 m), .v (pt 1 (i * 2)), .v (pt 2 (i * 2))] rfl [encL l, encL m] (rows2 (encL_plain _) (encL_plain _))) Try.prog mixed ⟨[(.bin .lss 3 (sv 42) (sv 40), .bool true), (.ixa 31 (ch 0) (sv 42), ch 2), (.ixa 31 (ch 1) (sv 42), ch 3), (.bin .neq 34 (.agg #[sv 43, sv 44]) (.agg #[sv 45, sv 46]), .bool true)], [⟨34, 2, 1, 0, .agg #[sv 43, sv 44]⟩, ⟨34, 3, 2, 1, .agg #[sv 45, sv 46]⟩], []⟩ [] ⟨qT ((i : Int) < (l.length : Int)), asIxa u31 z34 rfl rfl (by omega) (by omega) rfl (by simp), asIxa u31 z34 rfl rfl (by omega) (by omega) rfl (by simp), asNeA (c := false) (Eq.trans (b := some (wEq w v)) (by kernel_rfl) (congrArg some (wEq_ne hne))) rfl, trivial⟩ ⟨ld_agg a34 z34 rfl (show i * 2 + 2 ≤ (encL l).length by rw [encL_len]; omega) (encL_at l i w hx) rfl (by kernel_rfl), ld_agg a34 z34 rfl (show i * 2 + 2 ≤ (encL m).length by rw [encL_len]; omega) (encL_at m i v hy) rfl (by kernel_rfl), trivial⟩ trivial trivial 100 16 71 _ _ _ _ _ [] [] (by kernel_rfl) (by kernel_rfl)
theorem eq_miss {res : Value} (hl : l.length < 1000000) (he : l.length = m.length) (hi : i < l.length) (hx : l[i]? = some w) (hy : m[i]? = some v) (hne : w = v) (h : GoodS (dEQ l m (i + 1)) Try.prog 71 (eqH l m) res [] [] xEQ) : GoodS (dEQ l m i) Try.prog 71 (eqH l m) res [] [] xEQ := by
  · refine goodS_den (d2 := (denR newS [iv (l.length : Nat), iv (m.length : Nat), iv (i : Nat), iv w.1, iv w.2, iv v.1, iv v.2, iv ((i + 1 : Nat) : Int)] rfl [.v (lineV 1 l), .v (lineV 2 m), .v (pt 1 (i * 2)), .v (pt 2 (i * 2))] rfl [encL l, encL m] (rows2 (encL_plain _) (encL_plain _)))) mixed (by kernel_rfl) (by kernel_rfl) (by kernel_rfl) ?_
    exact @goodS_seg (denR newS [iv (l.length : Nat), iv (m.length : Nat), iv (i : Nat), iv w.1, iv w.2, iv v.1, iv v.2, iv ((i + 1 : Nat) : Int)] rfl [.v (lineV 1 l), .v (lineV 2 m), .v (pt 1 (i * 2)), .v (pt 2 (i * 2))] rfl [encL l, encL m] (rows2 (encL_plain _) (encL_plain _))) (dEQ l m (i + 1)) Try.prog mixed ⟨[(.bin .lss 3 (sv 42) (sv 40), .bool true), (.ixa 31 (ch 0) (sv 42), ch 2), (.ixa 31 (ch 1) (sv 42), ch 3), (.bin .neq 34 (.agg #[sv 43, sv 44]) (.agg #[sv 45, sv 46]), .bool false), (.bin .add 3 (sv 42) (iv 1), sv 47)], [⟨34, 2, 1, 0, .agg #[sv 43, sv 44]⟩, ⟨34, 3, 2, 1, .agg #[sv 45, sv 46]⟩], []⟩ [] ⟨qT ((i : Int) < (l.length : Int)), asIxa u31 z34 rfl rfl (by omega) (by omega) rfl (by simp), asIxa u31 z34 rfl rfl (by omega) (by omega) rfl (by simp), asNeA (c := true) (Eq.trans (b := some (wEq w v)) (by kernel_rfl) (congrArg some (wEq_eq hne))) rfl, asP (u := iv ((i + 1 : Nat) : Int)) (Eq.trans (b := some (iv (IntKind.i64.wrap ((i : Int) + 1)))) (by kernel_rfl) (by rw [wrap_id (by omega) (by omega)]; rfl)) (by kernel_rfl), trivial⟩ ⟨ld_agg a34 z34 rfl (show i * 2 + 2 ≤ (encL l).length by rw [encL_len]; omega) (encL_at l i w hx) rfl (by kernel_rfl), ld_agg a34 z34 rfl (show i * 2 + 2 ≤ (encL m).length by rw [encL_len]; omega) (encL_at m i v hy) rfl (by kernel_rfl), trivial⟩ trivial trivial 100 14 71 _ _ _ _ _ [(1, 1), (2, 2)] [] _ _ _ _ _ _ (by kernel_rfl) (by kernel_rfl) (by kernel_rfl) h
theorem eq_end : GoodS (dEQ l m l.length) Try.prog 71 (eqH l m) (.bool true) [] [] xEQ := by
  · refine goodS_den (d2 := (denR newS [iv (l.length : Nat), iv (m.length : Nat), iv (l.length : Nat)] rfl [.v (lineV 1 l), .v (lineV 2 m)] rfl [encL l, encL m] (rows2 (encL_plain _) (encL_plain _)))) mixed (by kernel_rfl) (by kernel_rfl) (by kernel_rfl) ?_
    exact @goodS_fin (denR newS [iv (l.length : Nat), iv (m.length : Nat), iv (l.length : Nat)] rfl [.v (lineV 1 l), .v (lineV 2 m)] rfl [encL l, encL m] (rows2 (encL_plain _) (encL_plain _))) Try.prog mixed ⟨[(.bin .lss 3 (sv 42) (sv 40), .bool false)], [], []⟩ [] ⟨qF ((l.length : Int) < (l.length : Int)), trivial⟩ trivial trivial trivial 100 10 71 _ _ _ _ _ [] [] (by kernel_rfl) (by kernel_rfl)
end
theorem eq_all {l m : List (Int × Int)} (hl : l.length < 1000000) (he : l.length = m.length) : ∀ (k i : Nat), i + k = l.length → GoodS (dEQ l m i) Try.prog 71 (eqH l m) (.bool (decide (l.drop i = m.drop i))) [] [] xEQ := by
  intro k
  induction k with
  | zero =>
    intro i hi
    have : i = l.length := by omega
    subst this
    rw [List.drop_length, he, List.drop_length, ← he, decide_eq_true rfl]
    exact eq_end
  | succ k ih =>
    intro i hi
    have h1 : i < l.length := by omega
    have h2 : i < m.length := by omega
    have hx : l[i]? = some l[i] := by simp [h1]
    have hy : m[i]? = some m[i] := by simp [h2]
    rw [List.drop_eq_getElem_cons h1, List.drop_eq_getElem_cons h2]
    by_cases hxy : l[i] = m[i]
    · have h := ih (i + 1) (by omega)
      have e : (l[i] :: l.drop (i + 1) = m[i] :: m.drop (i + 1)) ↔ l.drop (i + 1) = m.drop (i + 1) := ⟨fun h => (List.cons.inj h).2, fun h => by rw [hxy, h]⟩
      rw [show decide (l[i] :: l.drop (i + 1) = m[i] :: m.drop (i + 1)) = decide (l.drop (i + 1) = m.drop (i + 1)) from decide_eq_decide.2 e]
      exact eq_miss hl he h1 hx hy hxy h
    · rw [decide_eq_false (fun h => hxy (List.cons.inj h).1)]
      exact eq_hit hl he h1 hx hy hxy
theorem sliEq_b {l m : List (Int × Int)} {b : Bool} (hl : l.length < 1000000) (hb : decide (l = m) = b) : Ctr Try.prog 71 [lineV 1 l, lineV 2 m] (eqH l m) (.bool b) [] := by
  subst hb
  by_cases he : l.length = m.length
  · have h := eq_all hl he l.length 0 (Nat.zero_add _)
    rw [List.drop_zero, List.drop_zero] at h
    exact eq_head he h
  · rw [decide_eq_false (fun e => he (by rw [e]))]
    exact eq_ne he
def eEQ (c : Nat) (b : Bool) : Entry := { args := [.chan (some 0), .chan (some 1)], c := c, foots := [⟨1, 1, true, .orow 34 0 true, .orow 34 0 true⟩, ⟨3, 2, true, .orow 34 1 true, .orow 34 1 true⟩], news := [], res := .bool b }
def saP : List Value := [.pointer (some ⟨0, 0, none⟩), .pointer (some ⟨2, 0, none⟩)]
def saA : HL := [(0, .row 73 (.lst (syms [])) true), (1, .orow 34 0 true), (2, .row 73 (.lst (symsT 40 1)) true), (3, .orow 34 1 true)]
def saH (s t : St) : HL := [(0, .row 73 (.lst (cells s (lineV 1 s.line))) true), (1, .row 34 (.lst (encL s.line)) true), (2, .row 73 (.lst (cells t (lineV 3 t.line))) true), (3, .row 34 (.lst (encL t.line)) true)]
def sameM (s t : St) : Bool := if s.x = t.x then if s.owner = t.owner then if bq8 s.sh t.sh = true then if bq8 s.pa t.pa = true then if ops8 s.ops t.ops = true then if s.line = t.line then if wEq (s.hn, s.hk) (t.hn, t.hk) = true then if s.wt = t.wt then if bq8 s.go t.go = true then if s.su = t.su then if s.op = t.op then true else false else false else false else false else false else false else false else false else false else false else false
section
variable {s t : St}
theorem sa_0 (_hl : s.line.length < 1000000) (h0 : s.x ≠ t.x) : Ctr Try.prog 29 saP (saH s t) (.bool false) [] := by
  · skip
    exact pth (denR s (v40 t) rfl [.v (lineV 1 s.line), .v (lineV 3 t.line)] rfl [encL s.line, encL t.line] (rows2 (encL_plain _) (encL_plain _))) ⟨[(.bin .neq 31 (ch 0) (.slice none 0 0), .bool true), (.bin .neq 31 (ch 1) (.slice none 0 0), .bool true), (.bin .eql 3 (sv 0) (sv 40), .bool false)], [], []⟩ [] ⟨asNeS u31 rfl, asNeS u31 rfl, eF s.x t.x, trivial⟩ trivial trivial trivial 4 (saA) [pt 0 0, pt 2 0] []
theorem sa_1 (_hl : s.line.length < 1000000) (h0 : s.x = t.x) (h1 : s.owner ≠ t.owner) : Ctr Try.prog 29 saP (saH s t) (.bool false) [] := by
  · skip
    exact pth (denR s (v40 t) rfl [.v (lineV 1 s.line), .v (lineV 3 t.line)] rfl [encL s.line, encL t.line] (rows2 (encL_plain _) (encL_plain _))) ⟨[(.bin .neq 31 (ch 0) (.slice none 0 0), .bool true), (.bin .neq 31 (ch 1) (.slice none 0 0), .bool true), (.bin .eql 3 (sv 0) (sv 40), .bool true), (.bin .eql 3 (sv 1) (sv 41), .bool false)], [], []⟩ [] ⟨asNeS u31 rfl, asNeS u31 rfl, eT s.x t.x, eF s.owner t.owner, trivial⟩ trivial trivial trivial 4 (saA) [pt 0 0, pt 2 0] []
theorem sa_2 (_hl : s.line.length < 1000000) (h0 : s.x = t.x) (h1 : s.owner = t.owner) (h2 : bq8 s.sh t.sh = false) : Ctr Try.prog 29 saP (saH s t) (.bool false) [] := by
  · skip
    exact pth (denR s (v40 t) rfl [.v (lineV 1 s.line), .v (lineV 3 t.line)] rfl [encL s.line, encL t.line] (rows2 (encL_plain _) (encL_plain _))) ⟨[(.bin .neq 31 (ch 0) (.slice none 0 0), .bool true), (.bin .neq 31 (ch 1) (.slice none 0 0), .bool true), (.bin .eql 3 (sv 0) (sv 40), .bool true), (.bin .eql 3 (sv 1) (sv 41), .bool true), (.bin .eql 70 (.agg (v8 2)) (.agg (v8 42)), .bool false)], [], []⟩ [] ⟨asNeS u31 rfl, asNeS u31 rfl, eT s.x t.x, eT s.owner t.owner, asEqA (c := false) (Eq.trans (b := some (bq8 s.sh t.sh)) (by kernel_rfl) (congrArg some h2)) rfl, trivial⟩ trivial trivial trivial 4 (saA) [pt 0 0, pt 2 0] []
theorem sa_3 (_hl : s.line.length < 1000000) (h0 : s.x = t.x) (h1 : s.owner = t.owner) (h2 : bq8 s.sh t.sh = true) (h3 : bq8 s.pa t.pa = false) : Ctr Try.prog 29 saP (saH s t) (.bool false) [] := by
  · skip
    exact pth (denR s (v40 t) rfl [.v (lineV 1 s.line), .v (lineV 3 t.line)] rfl [encL s.line, encL t.line] (rows2 (encL_plain _) (encL_plain _))) ⟨[(.bin .neq 31 (ch 0) (.slice none 0 0), .bool true), (.bin .neq 31 (ch 1) (.slice none 0 0), .bool true), (.bin .eql 3 (sv 0) (sv 40), .bool true), (.bin .eql 3 (sv 1) (sv 41), .bool true), (.bin .eql 70 (.agg (v8 2)) (.agg (v8 42)), .bool true), (.bin .eql 70 (.agg (v8 10)) (.agg (v8 50)), .bool false)], [], []⟩ [] ⟨asNeS u31 rfl, asNeS u31 rfl, eT s.x t.x, eT s.owner t.owner, asEqA (c := true) (Eq.trans (b := some (bq8 s.sh t.sh)) (by kernel_rfl) (congrArg some h2)) rfl, asEqA (c := false) (Eq.trans (b := some (bq8 s.pa t.pa)) (by kernel_rfl) (congrArg some h3)) rfl, trivial⟩ trivial trivial trivial 4 (saA) [pt 0 0, pt 2 0] []
theorem sa_4 (_hl : s.line.length < 1000000) (h0 : s.x = t.x) (h1 : s.owner = t.owner) (h2 : bq8 s.sh t.sh = true) (h3 : bq8 s.pa t.pa = true) (h4 : ops8 s.ops t.ops = false) : Ctr Try.prog 29 saP (saH s t) (.bool false) [] := by
  · skip
    exact pth (denR s (v40 t) rfl [.v (lineV 1 s.line), .v (lineV 3 t.line)] rfl [encL s.line, encL t.line] (rows2 (encL_plain _) (encL_plain _))) ⟨[(.bin .neq 31 (ch 0) (.slice none 0 0), .bool true), (.bin .neq 31 (ch 1) (.slice none 0 0), .bool true), (.bin .eql 3 (sv 0) (sv 40), .bool true), (.bin .eql 3 (sv 1) (sv 41), .bool true), (.bin .eql 70 (.agg (v8 2)) (.agg (v8 42)), .bool true), (.bin .eql 70 (.agg (v8 10)) (.agg (v8 50)), .bool true), (.bin .eql 30 (.agg (v8 18)) (.agg (v8 58)), .bool false)], [], []⟩ [] ⟨asNeS u31 rfl, asNeS u31 rfl, eT s.x t.x, eT s.owner t.owner, asEqA (c := true) (Eq.trans (b := some (bq8 s.sh t.sh)) (by kernel_rfl) (congrArg some h2)) rfl, asEqA (c := true) (Eq.trans (b := some (bq8 s.pa t.pa)) (by kernel_rfl) (congrArg some h3)) rfl, asEqA (c := false) (Eq.trans (b := some (ops8 s.ops t.ops)) (by kernel_rfl) (congrArg some h4)) rfl, trivial⟩ trivial trivial trivial 4 (saA) [pt 0 0, pt 2 0] []
theorem sa_5 (hl : s.line.length < 1000000) (h0 : s.x = t.x) (h1 : s.owner = t.owner) (h2 : bq8 s.sh t.sh = true) (h3 : bq8 s.pa t.pa = true) (h4 : ops8 s.ops t.ops = true) (h5 : decide (s.line = t.line) = false) : Ctr Try.prog 29 saP (saH s t) (.bool false) [] := by
  · skip
    exact pth (denR s (v40 t) rfl [.v (lineV 1 s.line), .v (lineV 3 t.line)] rfl [encL s.line, encL t.line] (rows2 (encL_plain _) (encL_plain _))) ⟨[(.bin .neq 31 (ch 0) (.slice none 0 0), .bool true), (.bin .neq 31 (ch 1) (.slice none 0 0), .bool true), (.bin .eql 3 (sv 0) (sv 40), .bool true), (.bin .eql 3 (sv 1) (sv 41), .bool true), (.bin .eql 70 (.agg (v8 2)) (.agg (v8 42)), .bool true), (.bin .eql 70 (.agg (v8 10)) (.agg (v8 50)), .bool true), (.bin .eql 30 (.agg (v8 18)) (.agg (v8 58)), .bool true)], [], []⟩ [(71, [eEQ 4 false])] ⟨asNeS u31 rfl, asNeS u31 rfl, eT s.x t.x, eT s.owner t.owner, asEqA (c := true) (Eq.trans (b := some (bq8 s.sh t.sh)) (by kernel_rfl) (congrArg some h2)) rfl, asEqA (c := true) (Eq.trans (b := some (bq8 s.pa t.pa)) (by kernel_rfl) (congrArg some h3)) rfl, asEqA (c := true) (Eq.trans (b := some (ops8 s.ops t.ops)) (by kernel_rfl) (congrArg some h4)) rfl, trivial⟩ trivial trivial ⟨oe (sliEq_b (by omega) h5), trivial⟩ 4 (saA) [pt 0 0, pt 2 0] []
theorem sa_6 (hl : s.line.length < 1000000) (h0 : s.x = t.x) (h1 : s.owner = t.owner) (h2 : bq8 s.sh t.sh = true) (h3 : bq8 s.pa t.pa = true) (h4 : ops8 s.ops t.ops = true) (h5 : decide (s.line = t.line) = true) (h6 : wEq (s.hn, s.hk) (t.hn, t.hk) = false) : Ctr Try.prog 29 saP (saH s t) (.bool false) [] := by
  · skip
    exact pth (denR s (v40 t) rfl [.v (lineV 1 s.line), .v (lineV 3 t.line)] rfl [encL s.line, encL t.line] (rows2 (encL_plain _) (encL_plain _))) ⟨[(.bin .neq 31 (ch 0) (.slice none 0 0), .bool true), (.bin .neq 31 (ch 1) (.slice none 0 0), .bool true), (.bin .eql 3 (sv 0) (sv 40), .bool true), (.bin .eql 3 (sv 1) (sv 41), .bool true), (.bin .eql 70 (.agg (v8 2)) (.agg (v8 42)), .bool true), (.bin .eql 70 (.agg (v8 10)) (.agg (v8 50)), .bool true), (.bin .eql 30 (.agg (v8 18)) (.agg (v8 58)), .bool true), (.bin .eql 34 (.agg #[sv 27, sv 28]) (.agg #[sv 67, sv 68]), .bool false)], [], []⟩ [(71, [eEQ 4 true])] ⟨asNeS u31 rfl, asNeS u31 rfl, eT s.x t.x, eT s.owner t.owner, asEqA (c := true) (Eq.trans (b := some (bq8 s.sh t.sh)) (by kernel_rfl) (congrArg some h2)) rfl, asEqA (c := true) (Eq.trans (b := some (bq8 s.pa t.pa)) (by kernel_rfl) (congrArg some h3)) rfl, asEqA (c := true) (Eq.trans (b := some (ops8 s.ops t.ops)) (by kernel_rfl) (congrArg some h4)) rfl, asEqA (c := false) (Eq.trans (b := some (wEq (s.hn, s.hk) (t.hn, t.hk))) (by kernel_rfl) (congrArg some h6)) rfl, trivial⟩ trivial trivial ⟨oe (sliEq_b (by omega) h5), trivial⟩ 4 (saA) [pt 0 0, pt 2 0] []
theorem sa_7 (hl : s.line.length < 1000000) (h0 : s.x = t.x) (h1 : s.owner = t.owner) (h2 : bq8 s.sh t.sh = true) (h3 : bq8 s.pa t.pa = true) (h4 : ops8 s.ops t.ops = true) (h5 : decide (s.line = t.line) = true) (h6 : wEq (s.hn, s.hk) (t.hn, t.hk) = true) (h7 : s.wt ≠ t.wt) : Ctr Try.prog 29 saP (saH s t) (.bool false) [] := by
  · skip
    exact pth (denR s (v40 t) rfl [.v (lineV 1 s.line), .v (lineV 3 t.line)] rfl [encL s.line, encL t.line] (rows2 (encL_plain _) (encL_plain _))) ⟨[(.bin .neq 31 (ch 0) (.slice none 0 0), .bool true), (.bin .neq 31 (ch 1) (.slice none 0 0), .bool true), (.bin .eql 3 (sv 0) (sv 40), .bool true), (.bin .eql 3 (sv 1) (sv 41), .bool true), (.bin .eql 70 (.agg (v8 2)) (.agg (v8 42)), .bool true), (.bin .eql 70 (.agg (v8 10)) (.agg (v8 50)), .bool true), (.bin .eql 30 (.agg (v8 18)) (.agg (v8 58)), .bool true), (.bin .eql 34 (.agg #[sv 27, sv 28]) (.agg #[sv 67, sv 68]), .bool true), (.bin .eql 71 (sv 29) (sv 69), .bool false)], [], []⟩ [(71, [eEQ 4 true])] ⟨asNeS u31 rfl, asNeS u31 rfl, eT s.x t.x, eT s.owner t.owner, asEqA (c := true) (Eq.trans (b := some (bq8 s.sh t.sh)) (by kernel_rfl) (congrArg some h2)) rfl, asEqA (c := true) (Eq.trans (b := some (bq8 s.pa t.pa)) (by kernel_rfl) (congrArg some h3)) rfl, asEqA (c := true) (Eq.trans (b := some (ops8 s.ops t.ops)) (by kernel_rfl) (congrArg some h4)) rfl, asEqA (c := true) (Eq.trans (b := some (wEq (s.hn, s.hk) (t.hn, t.hk))) (by kernel_rfl) (congrArg some h6)) rfl, eF s.wt t.wt, trivial⟩ trivial trivial ⟨oe (sliEq_b (by omega) h5), trivial⟩ 4 (saA) [pt 0 0, pt 2 0] []
theorem sa_8 (hl : s.line.length < 1000000) (h0 : s.x = t.x) (h1 : s.owner = t.owner) (h2 : bq8 s.sh t.sh = true) (h3 : bq8 s.pa t.pa = true) (h4 : ops8 s.ops t.ops = true) (h5 : decide (s.line = t.line) = true) (h6 : wEq (s.hn, s.hk) (t.hn, t.hk) = true) (h7 : s.wt = t.wt) (h8 : bq8 s.go t.go = false) : Ctr Try.prog 29 saP (saH s t) (.bool false) [] := by
  · skip
    exact pth (denR s (v40 t) rfl [.v (lineV 1 s.line), .v (lineV 3 t.line)] rfl [encL s.line, encL t.line] (rows2 (encL_plain _) (encL_plain _))) ⟨[(.bin .neq 31 (ch 0) (.slice none 0 0), .bool true), (.bin .neq 31 (ch 1) (.slice none 0 0), .bool true), (.bin .eql 3 (sv 0) (sv 40), .bool true), (.bin .eql 3 (sv 1) (sv 41), .bool true), (.bin .eql 70 (.agg (v8 2)) (.agg (v8 42)), .bool true), (.bin .eql 70 (.agg (v8 10)) (.agg (v8 50)), .bool true), (.bin .eql 30 (.agg (v8 18)) (.agg (v8 58)), .bool true), (.bin .eql 34 (.agg #[sv 27, sv 28]) (.agg #[sv 67, sv 68]), .bool true), (.bin .eql 71 (sv 29) (sv 69), .bool true), (.bin .eql 70 (.agg (v8 30)) (.agg (v8 70)), .bool false)], [], []⟩ [(71, [eEQ 4 true])] ⟨asNeS u31 rfl, asNeS u31 rfl, eT s.x t.x, eT s.owner t.owner, asEqA (c := true) (Eq.trans (b := some (bq8 s.sh t.sh)) (by kernel_rfl) (congrArg some h2)) rfl, asEqA (c := true) (Eq.trans (b := some (bq8 s.pa t.pa)) (by kernel_rfl) (congrArg some h3)) rfl, asEqA (c := true) (Eq.trans (b := some (ops8 s.ops t.ops)) (by kernel_rfl) (congrArg some h4)) rfl, asEqA (c := true) (Eq.trans (b := some (wEq (s.hn, s.hk) (t.hn, t.hk))) (by kernel_rfl) (congrArg some h6)) rfl, eT s.wt t.wt, asEqA (c := false) (Eq.trans (b := some (bq8 s.go t.go)) (by kernel_rfl) (congrArg some h8)) rfl, trivial⟩ trivial trivial ⟨oe (sliEq_b (by omega) h5), trivial⟩ 4 (saA) [pt 0 0, pt 2 0] []
theorem sa_9 (hl : s.line.length < 1000000) (h0 : s.x = t.x) (h1 : s.owner = t.owner) (h2 : bq8 s.sh t.sh = true) (h3 : bq8 s.pa t.pa = true) (h4 : ops8 s.ops t.ops = true) (h5 : decide (s.line = t.line) = true) (h6 : wEq (s.hn, s.hk) (t.hn, t.hk) = true) (h7 : s.wt = t.wt) (h8 : bq8 s.go t.go = true) (h9 : s.su ≠ t.su) : Ctr Try.prog 29 saP (saH s t) (.bool false) [] := by
  · skip
    exact pth (denR s (v40 t) rfl [.v (lineV 1 s.line), .v (lineV 3 t.line)] rfl [encL s.line, encL t.line] (rows2 (encL_plain _) (encL_plain _))) ⟨[(.bin .neq 31 (ch 0) (.slice none 0 0), .bool true), (.bin .neq 31 (ch 1) (.slice none 0 0), .bool true), (.bin .eql 3 (sv 0) (sv 40), .bool true), (.bin .eql 3 (sv 1) (sv 41), .bool true), (.bin .eql 70 (.agg (v8 2)) (.agg (v8 42)), .bool true), (.bin .eql 70 (.agg (v8 10)) (.agg (v8 50)), .bool true), (.bin .eql 30 (.agg (v8 18)) (.agg (v8 58)), .bool true), (.bin .eql 34 (.agg #[sv 27, sv 28]) (.agg #[sv 67, sv 68]), .bool true), (.bin .eql 71 (sv 29) (sv 69), .bool true), (.bin .eql 70 (.agg (v8 30)) (.agg (v8 70)), .bool true), (.bin .eql 3 (sv 38) (sv 78), .bool false)], [], []⟩ [(71, [eEQ 4 true])] ⟨asNeS u31 rfl, asNeS u31 rfl, eT s.x t.x, eT s.owner t.owner, asEqA (c := true) (Eq.trans (b := some (bq8 s.sh t.sh)) (by kernel_rfl) (congrArg some h2)) rfl, asEqA (c := true) (Eq.trans (b := some (bq8 s.pa t.pa)) (by kernel_rfl) (congrArg some h3)) rfl, asEqA (c := true) (Eq.trans (b := some (ops8 s.ops t.ops)) (by kernel_rfl) (congrArg some h4)) rfl, asEqA (c := true) (Eq.trans (b := some (wEq (s.hn, s.hk) (t.hn, t.hk))) (by kernel_rfl) (congrArg some h6)) rfl, eT s.wt t.wt, asEqA (c := true) (Eq.trans (b := some (bq8 s.go t.go)) (by kernel_rfl) (congrArg some h8)) rfl, eF s.su t.su, trivial⟩ trivial trivial ⟨oe (sliEq_b (by omega) h5), trivial⟩ 4 (saA) [pt 0 0, pt 2 0] []
theorem sa_10 (hl : s.line.length < 1000000) (h0 : s.x = t.x) (h1 : s.owner = t.owner) (h2 : bq8 s.sh t.sh = true) (h3 : bq8 s.pa t.pa = true) (h4 : ops8 s.ops t.ops = true) (h5 : decide (s.line = t.line) = true) (h6 : wEq (s.hn, s.hk) (t.hn, t.hk) = true) (h7 : s.wt = t.wt) (h8 : bq8 s.go t.go = true) (h9 : s.su = t.su) (h10 : s.op ≠ t.op) : Ctr Try.prog 29 saP (saH s t) (.bool false) [] := by
  · skip
    exact pth (denR s (v40 t) rfl [.v (lineV 1 s.line), .v (lineV 3 t.line)] rfl [encL s.line, encL t.line] (rows2 (encL_plain _) (encL_plain _))) ⟨[(.bin .neq 31 (ch 0) (.slice none 0 0), .bool true), (.bin .neq 31 (ch 1) (.slice none 0 0), .bool true), (.bin .eql 3 (sv 0) (sv 40), .bool true), (.bin .eql 3 (sv 1) (sv 41), .bool true), (.bin .eql 70 (.agg (v8 2)) (.agg (v8 42)), .bool true), (.bin .eql 70 (.agg (v8 10)) (.agg (v8 50)), .bool true), (.bin .eql 30 (.agg (v8 18)) (.agg (v8 58)), .bool true), (.bin .eql 34 (.agg #[sv 27, sv 28]) (.agg #[sv 67, sv 68]), .bool true), (.bin .eql 71 (sv 29) (sv 69), .bool true), (.bin .eql 70 (.agg (v8 30)) (.agg (v8 70)), .bool true), (.bin .eql 3 (sv 38) (sv 78), .bool true), (.bin .eql 2 (sv 39) (sv 79), .bool false)], [], []⟩ [(71, [eEQ 4 true])] ⟨asNeS u31 rfl, asNeS u31 rfl, eT s.x t.x, eT s.owner t.owner, asEqA (c := true) (Eq.trans (b := some (bq8 s.sh t.sh)) (by kernel_rfl) (congrArg some h2)) rfl, asEqA (c := true) (Eq.trans (b := some (bq8 s.pa t.pa)) (by kernel_rfl) (congrArg some h3)) rfl, asEqA (c := true) (Eq.trans (b := some (ops8 s.ops t.ops)) (by kernel_rfl) (congrArg some h4)) rfl, asEqA (c := true) (Eq.trans (b := some (wEq (s.hn, s.hk) (t.hn, t.hk))) (by kernel_rfl) (congrArg some h6)) rfl, eT s.wt t.wt, asEqA (c := true) (Eq.trans (b := some (bq8 s.go t.go)) (by kernel_rfl) (congrArg some h8)) rfl, eT s.su t.su, eF s.op t.op, trivial⟩ trivial trivial ⟨oe (sliEq_b (by omega) h5), trivial⟩ 4 (saA) [pt 0 0, pt 2 0] []
theorem sa_99 (hl : s.line.length < 1000000) (h0 : s.x = t.x) (h1 : s.owner = t.owner) (h2 : bq8 s.sh t.sh = true) (h3 : bq8 s.pa t.pa = true) (h4 : ops8 s.ops t.ops = true) (h5 : decide (s.line = t.line) = true) (h6 : wEq (s.hn, s.hk) (t.hn, t.hk) = true) (h7 : s.wt = t.wt) (h8 : bq8 s.go t.go = true) (h9 : s.su = t.su) (h10 : s.op = t.op) : Ctr Try.prog 29 saP (saH s t) (.bool true) [] := by
  · skip
    exact pth (denR s (v40 t) rfl [.v (lineV 1 s.line), .v (lineV 3 t.line)] rfl [encL s.line, encL t.line] (rows2 (encL_plain _) (encL_plain _))) ⟨[(.bin .neq 31 (ch 0) (.slice none 0 0), .bool true), (.bin .neq 31 (ch 1) (.slice none 0 0), .bool true), (.bin .eql 3 (sv 0) (sv 40), .bool true), (.bin .eql 3 (sv 1) (sv 41), .bool true), (.bin .eql 70 (.agg (v8 2)) (.agg (v8 42)), .bool true), (.bin .eql 70 (.agg (v8 10)) (.agg (v8 50)), .bool true), (.bin .eql 30 (.agg (v8 18)) (.agg (v8 58)), .bool true), (.bin .eql 34 (.agg #[sv 27, sv 28]) (.agg #[sv 67, sv 68]), .bool true), (.bin .eql 71 (sv 29) (sv 69), .bool true), (.bin .eql 70 (.agg (v8 30)) (.agg (v8 70)), .bool true), (.bin .eql 3 (sv 38) (sv 78), .bool true), (.bin .eql 2 (sv 39) (sv 79), .bool true)], [], []⟩ [(71, [eEQ 4 true])] ⟨asNeS u31 rfl, asNeS u31 rfl, eT s.x t.x, eT s.owner t.owner, asEqA (c := true) (Eq.trans (b := some (bq8 s.sh t.sh)) (by kernel_rfl) (congrArg some h2)) rfl, asEqA (c := true) (Eq.trans (b := some (bq8 s.pa t.pa)) (by kernel_rfl) (congrArg some h3)) rfl, asEqA (c := true) (Eq.trans (b := some (ops8 s.ops t.ops)) (by kernel_rfl) (congrArg some h4)) rfl, asEqA (c := true) (Eq.trans (b := some (wEq (s.hn, s.hk) (t.hn, t.hk))) (by kernel_rfl) (congrArg some h6)) rfl, eT s.wt t.wt, asEqA (c := true) (Eq.trans (b := some (bq8 s.go t.go)) (by kernel_rfl) (congrArg some h8)) rfl, eT s.su t.su, eT s.op t.op, trivial⟩ trivial trivial ⟨oe (sliEq_b (by omega) h5), trivial⟩ 4 (saA) [pt 0 0, pt 2 0] []
theorem same_b (hl : s.line.length < 1000000) : Ctr Try.prog 29 saP (saH s t) (.bool (sameM s t)) [] := by
  unfold sameM
  by_cases h0 : s.x = t.x
  · rw [if_pos h0]
    by_cases h1 : s.owner = t.owner
    · rw [if_pos h1]
      by_cases h2 : bq8 s.sh t.sh = true
      · rw [if_pos h2]
        by_cases h3 : bq8 s.pa t.pa = true
        · rw [if_pos h3]
          by_cases h4 : ops8 s.ops t.ops = true
          · rw [if_pos h4]
            by_cases h5 : s.line = t.line
            · rw [if_pos h5]
              by_cases h6 : wEq (s.hn, s.hk) (t.hn, t.hk) = true
              · rw [if_pos h6]
                by_cases h7 : s.wt = t.wt
                · rw [if_pos h7]
                  by_cases h8 : bq8 s.go t.go = true
                  · rw [if_pos h8]
                    by_cases h9 : s.su = t.su
                    · rw [if_pos h9]
                      by_cases h10 : s.op = t.op
                      · rw [if_pos h10]
                        exact sa_99 hl h0 h1 h2 h3 h4 (decide_eq_true h5) h6 h7 h8 h9 h10
                      · rw [if_neg h10]
                        exact sa_10 hl h0 h1 h2 h3 h4 (decide_eq_true h5) h6 h7 h8 h9 h10
                    · rw [if_neg h9]
                      exact sa_9 hl h0 h1 h2 h3 h4 (decide_eq_true h5) h6 h7 h8 h9
                  · rw [if_neg h8]
                    exact sa_8 hl h0 h1 h2 h3 h4 (decide_eq_true h5) h6 h7 (Bool.eq_false_iff.2 h8)
                · rw [if_neg h7]
                  exact sa_7 hl h0 h1 h2 h3 h4 (decide_eq_true h5) h6 h7
              · rw [if_neg h6]
                exact sa_6 hl h0 h1 h2 h3 h4 (decide_eq_true h5) (Bool.eq_false_iff.2 h6)
            · rw [if_neg h5]
              exact sa_5 hl h0 h1 h2 h3 h4 (decide_eq_false h5)
          · rw [if_neg h4]
            exact sa_4 hl h0 h1 h2 h3 (Bool.eq_false_iff.2 h4)
        · rw [if_neg h3]
          exact sa_3 hl h0 h1 h2 (Bool.eq_false_iff.2 h3)
      · rw [if_neg h2]
        exact sa_2 hl h0 h1 (Bool.eq_false_iff.2 h2)
    · rw [if_neg h1]
      exact sa_1 hl h0 h1
  · rw [if_neg h0]
    exact sa_0 hl  h0
theorem same_lit {b : Bool} (hl : s.line.length < 1000000) (hb : sameM s t = b) : Ctr Try.prog 29 saP (saH s t) (.bool b) [] := by
  subst hb; exact same_b hl
end
theorem bq8_self (f : Nat → Bool) : bq8 f f = true := by simp [bq8]
theorem sameM_self (s : St) : sameM s s = true := by
  unfold sameM
  simp [bq8_self, ops8_self, wEq_eq]
def sgA : HL := [(2, .mrow 3 1 true), (3, .mrow 3 2 true), (4, .mrow 34 0 true), (5, .mrow 3 4 true), (6, .mrow 3 5 true), (7, .mrow 34 3 true)]
def sgS : Value := .agg #[sv 0, sv 1, .chan (some 1), .chan (some 2), sv 18, sv 19, sv 20, sv 21, sv 22, sv 23, sv 24, sv 25, .chan (some 0), sv 27, sv 28, sv 80, sv 39]
def sgT : Value := .agg #[sv 40, sv 41, .chan (some 3), .chan (some 4), sv 58, sv 59, sv 60, sv 61, sv 62, sv 63, sv 64, sv 65, .chan (some 5), sv 67, sv 68, sv 81, sv 79]
def sgC (a b c i k : Nat) : List Value := [sv i, sv (i + 1), .chan (some a), .chan (some b), sv (i + 18), sv (i + 19), sv (i + 20), sv (i + 21), sv (i + 22), sv (i + 23), sv (i + 24), sv (i + 25), .chan (some c), sv (i + 27), sv (i + 28), sv k, sv (i + 39)]
def sgH (s t : St) : HL := [(2, setO s.sh true), (3, setO s.pa true), (4, rowOr 34 (encL s.line) true), (5, setO t.sh true), (6, setO t.pa true), (7, rowOr 34 (encL t.line) true)]
def sgP (s t : St) : List Value := [bkG 2 3 (lvR 4 s.line) s, bkG 5 6 (lvR 7 t.line) t]
def eSJ (a b c i j r r' : Nat) (v : Bool) : Entry := { args := [.chan (some a), .chan (some b)], c := c, foots := [⟨i, 1, true, .mrow 3 r true, .mrow 3 r true⟩, ⟨j, 2, true, .mrow 3 r' true, .mrow 3 r' true⟩], news := [], res := .bool v }
theorem sameInts_b {l m : List Int} {b : Bool} (hl : l.length < 1000000) (hb : decide (l = m) = b) : Ctr Try.prog 61 [mSl 1 l.length INF, mSl 2 m.length INF] (siH l m) (.bool b) [] := by
  subst hb; exact sameInts_ctr l m hl
noncomputable def xSG : Cfg := headC kSB .normal [(2, .pointer (some ⟨8, 0, none⟩)), (3, .pointer (some ⟨9, 0, none⟩)), (5, sv 84)] 89 10 (sgA ++ [(8, .row 36 (.lst (sgC 1 2 0 0 80)) false), (9, .row 36 (.lst (sgC 3 4 5 40 81)) false)])
noncomputable abbrev dSG (s t : St) (i : Nat) : Den := denR s (v40 t ++ [.bool (s.wt != 0), .bool (t.wt != 0), .int .i64 (s.line.length : Nat), .int .i64 (t.line.length : Nat), .int .i64 (i : Nat)]) rfl [olv 4 s.line, oint 2 (listTo s.sh 8), oint 3 (listTo s.pa 8), oint 5 (listTo t.sh 8), oint 6 (listTo t.pa 8), olv 7 t.line] rfl [encL s.line, encI (listTo s.sh 8), encI (listTo s.pa 8), encL t.line, encI (listTo t.sh 8), encI (listTo t.pa 8)] (rowsK (by repeat first | exact PL.nil | refine PL.cons ?_ ?_ | exact encL_plain _ | exact encOrds_plain _ | exact encI_plain _))
section
variable {s t : St} {i : Nat} {w v : Int × Int}
theorem sg_0 (h0 : s.x ≠ t.x) : Ctr Try.prog 19 (sgP s t) (sgH s t) (.bool false) [] := by
  · skip
    exact pth (denR s (v40 t ++ [.bool (s.wt != 0), .bool (t.wt != 0), iv (s.line.length : Nat), iv (t.line.length : Nat)]) rfl [olv 4 s.line, oint 2 (listTo s.sh 8), oint 3 (listTo s.pa 8), oint 5 (listTo t.sh 8), oint 6 (listTo t.pa 8), olv 7 t.line] rfl [encL s.line, encI (listTo s.sh 8), encI (listTo s.pa 8), encL t.line, encI (listTo t.sh 8), encI (listTo t.pa 8)] (rowsK (by repeat first | exact PL.nil | refine PL.cons ?_ ?_ | exact encL_plain _ | exact encOrds_plain _ | exact encI_plain _))) ⟨[(.bin .neq 3 (sv 0) (sv 40), .bool true)], [], []⟩ [] ⟨nT s.x t.x, trivial⟩ trivial trivial trivial 8 (sgA) [sgS, sgT] []
theorem sg_1 (h0 : s.x = t.x) (h1 : s.owner ≠ t.owner) : Ctr Try.prog 19 (sgP s t) (sgH s t) (.bool false) [] := by
  · skip
    exact pth (denR s (v40 t ++ [.bool (s.wt != 0), .bool (t.wt != 0), iv (s.line.length : Nat), iv (t.line.length : Nat)]) rfl [olv 4 s.line, oint 2 (listTo s.sh 8), oint 3 (listTo s.pa 8), oint 5 (listTo t.sh 8), oint 6 (listTo t.pa 8), olv 7 t.line] rfl [encL s.line, encI (listTo s.sh 8), encI (listTo s.pa 8), encL t.line, encI (listTo t.sh 8), encI (listTo t.pa 8)] (rowsK (by repeat first | exact PL.nil | refine PL.cons ?_ ?_ | exact encL_plain _ | exact encOrds_plain _ | exact encI_plain _))) ⟨[(.bin .neq 3 (sv 0) (sv 40), .bool false), (.bin .neq 3 (sv 1) (sv 41), .bool true)], [], []⟩ [] ⟨nF s.x t.x, nT s.owner t.owner, trivial⟩ trivial trivial trivial 8 (sgA) [sgS, sgT] []
theorem sg_2 (h0 : s.x = t.x) (h1 : s.owner = t.owner) (h2 : decide (listTo s.sh 8 = listTo t.sh 8) = false) : Ctr Try.prog 19 (sgP s t) (sgH s t) (.bool false) [] := by
  · skip
    exact pth (denR s (v40 t ++ [.bool (s.wt != 0), .bool (t.wt != 0), iv (s.line.length : Nat), iv (t.line.length : Nat)]) rfl [olv 4 s.line, oint 2 (listTo s.sh 8), oint 3 (listTo s.pa 8), oint 5 (listTo t.sh 8), oint 6 (listTo t.pa 8), olv 7 t.line] rfl [encL s.line, encI (listTo s.sh 8), encI (listTo s.pa 8), encL t.line, encI (listTo t.sh 8), encI (listTo t.pa 8)] (rowsK (by repeat first | exact PL.nil | refine PL.cons ?_ ?_ | exact encL_plain _ | exact encOrds_plain _ | exact encI_plain _))) ⟨[(.bin .neq 3 (sv 0) (sv 40), .bool false), (.bin .neq 3 (sv 1) (sv 41), .bool false)], [], []⟩ [(61, [eSJ 1 3 10 2 5 1 4 false])] ⟨nF s.x t.x, nF s.owner t.owner, trivial⟩ trivial trivial ⟨oe (sameInts_b (lenS _) h2), trivial⟩ 8 (sgA) [sgS, sgT] []
theorem sg_3 (h0 : s.x = t.x) (h1 : s.owner = t.owner) (h2 : decide (listTo s.sh 8 = listTo t.sh 8) = true) (h3 : decide (listTo s.pa 8 = listTo t.pa 8) = false) : Ctr Try.prog 19 (sgP s t) (sgH s t) (.bool false) [] := by
  · skip
    exact pth (denR s (v40 t ++ [.bool (s.wt != 0), .bool (t.wt != 0), iv (s.line.length : Nat), iv (t.line.length : Nat)]) rfl [olv 4 s.line, oint 2 (listTo s.sh 8), oint 3 (listTo s.pa 8), oint 5 (listTo t.sh 8), oint 6 (listTo t.pa 8), olv 7 t.line] rfl [encL s.line, encI (listTo s.sh 8), encI (listTo s.pa 8), encL t.line, encI (listTo t.sh 8), encI (listTo t.pa 8)] (rowsK (by repeat first | exact PL.nil | refine PL.cons ?_ ?_ | exact encL_plain _ | exact encOrds_plain _ | exact encI_plain _))) ⟨[(.bin .neq 3 (sv 0) (sv 40), .bool false), (.bin .neq 3 (sv 1) (sv 41), .bool false)], [], []⟩ [(61, [eSJ 1 3 10 2 5 1 4 true, eSJ 2 4 10 3 6 2 5 false])] ⟨nF s.x t.x, nF s.owner t.owner, trivial⟩ trivial trivial ⟨two_entry (entOK (sameInts_b (lenS _) h2) rfl (by kernel_rfl)) (entOK (sameInts_b (lenS _) h3) rfl (by kernel_rfl)), trivial⟩ 8 (sgA) [sgS, sgT] []
theorem sg_4 (h0 : s.x = t.x) (h1 : s.owner = t.owner) (h2 : decide (listTo s.sh 8 = listTo t.sh 8) = true) (h3 : decide (listTo s.pa 8 = listTo t.pa 8) = true) (h4 : ops8 s.ops t.ops = false) : Ctr Try.prog 19 (sgP s t) (sgH s t) (.bool false) [] := by
  · skip
    exact pth (denR s (v40 t ++ [.bool (s.wt != 0), .bool (t.wt != 0), iv (s.line.length : Nat), iv (t.line.length : Nat)]) rfl [olv 4 s.line, oint 2 (listTo s.sh 8), oint 3 (listTo s.pa 8), oint 5 (listTo t.sh 8), oint 6 (listTo t.pa 8), olv 7 t.line] rfl [encL s.line, encI (listTo s.sh 8), encI (listTo s.pa 8), encL t.line, encI (listTo t.sh 8), encI (listTo t.pa 8)] (rowsK (by repeat first | exact PL.nil | refine PL.cons ?_ ?_ | exact encL_plain _ | exact encOrds_plain _ | exact encI_plain _))) ⟨[(.bin .neq 3 (sv 0) (sv 40), .bool false), (.bin .neq 3 (sv 1) (sv 41), .bool false), (.bin .neq 30 (.agg (v8 18)) (.agg (v8 58)), .bool true)], [], []⟩ [(61, [eSJ 1 3 10 2 5 1 4 true, eSJ 2 4 10 3 6 2 5 true])] ⟨nF s.x t.x, nF s.owner t.owner, asNeA (c := false) (Eq.trans (b := some (ops8 s.ops t.ops)) (by kernel_rfl) (congrArg some h4)) rfl, trivial⟩ trivial trivial ⟨two_entry (entOK (sameInts_b (lenS _) h2) rfl (by kernel_rfl)) (entOK (sameInts_b (lenS _) h3) rfl (by kernel_rfl)), trivial⟩ 8 (sgA) [sgS, sgT] []
theorem sg_5 (h0 : s.x = t.x) (h1 : s.owner = t.owner) (h2 : decide (listTo s.sh 8 = listTo t.sh 8) = true) (h3 : decide (listTo s.pa 8 = listTo t.pa 8) = true) (h4 : ops8 s.ops t.ops = true) (h5 : s.line.length ≠ t.line.length) : Ctr Try.prog 19 (sgP s t) (sgH s t) (.bool false) [] := by
  · skip
    exact pth (denR s (v40 t ++ [.bool (s.wt != 0), .bool (t.wt != 0), iv (s.line.length : Nat), iv (t.line.length : Nat)]) rfl [olv 4 s.line, oint 2 (listTo s.sh 8), oint 3 (listTo s.pa 8), oint 5 (listTo t.sh 8), oint 6 (listTo t.pa 8), olv 7 t.line] rfl [encL s.line, encI (listTo s.sh 8), encI (listTo s.pa 8), encL t.line, encI (listTo t.sh 8), encI (listTo t.pa 8)] (rowsK (by repeat first | exact PL.nil | refine PL.cons ?_ ?_ | exact encL_plain _ | exact encOrds_plain _ | exact encI_plain _))) ⟨[(.bin .neq 3 (sv 0) (sv 40), .bool false), (.bin .neq 3 (sv 1) (sv 41), .bool false), (.bin .neq 30 (.agg (v8 18)) (.agg (v8 58)), .bool false), (.len 31 (ch 0), sv 82), (.len 31 (ch 5), sv 83), (.bin .neq 3 (sv 82) (sv 83), .bool true)], [], []⟩ [(61, [eSJ 1 3 10 2 5 1 4 true, eSJ 2 4 10 3 6 2 5 true])] ⟨nF s.x t.x, nF s.owner t.owner, asNeA (c := true) (Eq.trans (b := some (ops8 s.ops t.ops)) (by kernel_rfl) (congrArg some h4)) rfl, asLen u31 rfl (by kernel_rfl), asLen u31 rfl (by kernel_rfl), nT (s.line.length : Int) (t.line.length : Int), trivial⟩ trivial trivial ⟨two_entry (entOK (sameInts_b (lenS _) h2) rfl (by kernel_rfl)) (entOK (sameInts_b (lenS _) h3) rfl (by kernel_rfl)), trivial⟩ 8 (sgA) [sgS, sgT] []
theorem sg_6 (h0 : s.x = t.x) (h1 : s.owner = t.owner) (h2 : decide (listTo s.sh 8 = listTo t.sh 8) = true) (h3 : decide (listTo s.pa 8 = listTo t.pa 8) = true) (h4 : ops8 s.ops t.ops = true) (h5 : s.line.length = t.line.length) (h6 : wEq (s.hn, s.hk) (t.hn, t.hk) = false) : Ctr Try.prog 19 (sgP s t) (sgH s t) (.bool false) [] := by
  · skip
    exact pth (denR s (v40 t ++ [.bool (s.wt != 0), .bool (t.wt != 0), iv (s.line.length : Nat), iv (t.line.length : Nat)]) rfl [olv 4 s.line, oint 2 (listTo s.sh 8), oint 3 (listTo s.pa 8), oint 5 (listTo t.sh 8), oint 6 (listTo t.pa 8), olv 7 t.line] rfl [encL s.line, encI (listTo s.sh 8), encI (listTo s.pa 8), encL t.line, encI (listTo t.sh 8), encI (listTo t.pa 8)] (rowsK (by repeat first | exact PL.nil | refine PL.cons ?_ ?_ | exact encL_plain _ | exact encOrds_plain _ | exact encI_plain _))) ⟨[(.bin .neq 3 (sv 0) (sv 40), .bool false), (.bin .neq 3 (sv 1) (sv 41), .bool false), (.bin .neq 30 (.agg (v8 18)) (.agg (v8 58)), .bool false), (.len 31 (ch 0), sv 82), (.len 31 (ch 5), sv 83), (.bin .neq 3 (sv 82) (sv 83), .bool false), (.bin .neq 34 (.agg #[sv 27, sv 28]) (.agg #[sv 67, sv 68]), .bool true)], [], []⟩ [(61, [eSJ 1 3 10 2 5 1 4 true, eSJ 2 4 10 3 6 2 5 true])] ⟨nF s.x t.x, nF s.owner t.owner, asNeA (c := true) (Eq.trans (b := some (ops8 s.ops t.ops)) (by kernel_rfl) (congrArg some h4)) rfl, asLen u31 rfl (by kernel_rfl), asLen u31 rfl (by kernel_rfl), nF (s.line.length : Int) (t.line.length : Int), asNeA (c := false) (Eq.trans (b := some (wEq (s.hn, s.hk) (t.hn, t.hk))) (by kernel_rfl) (congrArg some h6)) rfl, trivial⟩ trivial trivial ⟨two_entry (entOK (sameInts_b (lenS _) h2) rfl (by kernel_rfl)) (entOK (sameInts_b (lenS _) h3) rfl (by kernel_rfl)), trivial⟩ 8 (sgA) [sgS, sgT] []
theorem sg_7 (h0 : s.x = t.x) (h1 : s.owner = t.owner) (h2 : decide (listTo s.sh 8 = listTo t.sh 8) = true) (h3 : decide (listTo s.pa 8 = listTo t.pa 8) = true) (h4 : ops8 s.ops t.ops = true) (h5 : s.line.length = t.line.length) (h6 : wEq (s.hn, s.hk) (t.hn, t.hk) = true) (h7 : ((s.wt != 0) != (t.wt != 0)) = true) : Ctr Try.prog 19 (sgP s t) (sgH s t) (.bool false) [] := by
  · skip
    exact pth (denR s (v40 t ++ [.bool (s.wt != 0), .bool (t.wt != 0), iv (s.line.length : Nat), iv (t.line.length : Nat)]) rfl [olv 4 s.line, oint 2 (listTo s.sh 8), oint 3 (listTo s.pa 8), oint 5 (listTo t.sh 8), oint 6 (listTo t.pa 8), olv 7 t.line] rfl [encL s.line, encI (listTo s.sh 8), encI (listTo s.pa 8), encL t.line, encI (listTo t.sh 8), encI (listTo t.pa 8)] (rowsK (by repeat first | exact PL.nil | refine PL.cons ?_ ?_ | exact encL_plain _ | exact encOrds_plain _ | exact encI_plain _))) ⟨[(.bin .neq 3 (sv 0) (sv 40), .bool false), (.bin .neq 3 (sv 1) (sv 41), .bool false), (.bin .neq 30 (.agg (v8 18)) (.agg (v8 58)), .bool false), (.len 31 (ch 0), sv 82), (.len 31 (ch 5), sv 83), (.bin .neq 3 (sv 82) (sv 83), .bool false), (.bin .neq 34 (.agg #[sv 27, sv 28]) (.agg #[sv 67, sv 68]), .bool false), (.bin .neq 4 (sv 80) (sv 81), .bool true)], [], []⟩ [(61, [eSJ 1 3 10 2 5 1 4 true, eSJ 2 4 10 3 6 2 5 true])] ⟨nF s.x t.x, nF s.owner t.owner, asNeA (c := true) (Eq.trans (b := some (ops8 s.ops t.ops)) (by kernel_rfl) (congrArg some h4)) rfl, asLen u31 rfl (by kernel_rfl), asLen u31 rfl (by kernel_rfl), nF (s.line.length : Int) (t.line.length : Int), asNeA (c := true) (Eq.trans (b := some (wEq (s.hn, s.hk) (t.hn, t.hk))) (by kernel_rfl) (congrArg some h6)) rfl, asB (c := ((s.wt != 0) != (t.wt != 0))) (by kernel_rfl) h7, trivial⟩ trivial trivial ⟨two_entry (entOK (sameInts_b (lenS _) h2) rfl (by kernel_rfl)) (entOK (sameInts_b (lenS _) h3) rfl (by kernel_rfl)), trivial⟩ 8 (sgA) [sgS, sgT] []
theorem sg_8 (h0 : s.x = t.x) (h1 : s.owner = t.owner) (h2 : decide (listTo s.sh 8 = listTo t.sh 8) = true) (h3 : decide (listTo s.pa 8 = listTo t.pa 8) = true) (h4 : ops8 s.ops t.ops = true) (h5 : s.line.length = t.line.length) (h6 : wEq (s.hn, s.hk) (t.hn, t.hk) = true) (h7 : ((s.wt != 0) != (t.wt != 0)) = false) (h8 : s.op ≠ t.op) : Ctr Try.prog 19 (sgP s t) (sgH s t) (.bool false) [] := by
  · skip
    exact pth (denR s (v40 t ++ [.bool (s.wt != 0), .bool (t.wt != 0), iv (s.line.length : Nat), iv (t.line.length : Nat)]) rfl [olv 4 s.line, oint 2 (listTo s.sh 8), oint 3 (listTo s.pa 8), oint 5 (listTo t.sh 8), oint 6 (listTo t.pa 8), olv 7 t.line] rfl [encL s.line, encI (listTo s.sh 8), encI (listTo s.pa 8), encL t.line, encI (listTo t.sh 8), encI (listTo t.pa 8)] (rowsK (by repeat first | exact PL.nil | refine PL.cons ?_ ?_ | exact encL_plain _ | exact encOrds_plain _ | exact encI_plain _))) ⟨[(.bin .neq 3 (sv 0) (sv 40), .bool false), (.bin .neq 3 (sv 1) (sv 41), .bool false), (.bin .neq 30 (.agg (v8 18)) (.agg (v8 58)), .bool false), (.len 31 (ch 0), sv 82), (.len 31 (ch 5), sv 83), (.bin .neq 3 (sv 82) (sv 83), .bool false), (.bin .neq 34 (.agg #[sv 27, sv 28]) (.agg #[sv 67, sv 68]), .bool false), (.bin .neq 4 (sv 80) (sv 81), .bool false), (.bin .neq 2 (sv 39) (sv 79), .bool true)], [], []⟩ [(61, [eSJ 1 3 10 2 5 1 4 true, eSJ 2 4 10 3 6 2 5 true])] ⟨nF s.x t.x, nF s.owner t.owner, asNeA (c := true) (Eq.trans (b := some (ops8 s.ops t.ops)) (by kernel_rfl) (congrArg some h4)) rfl, asLen u31 rfl (by kernel_rfl), asLen u31 rfl (by kernel_rfl), nF (s.line.length : Int) (t.line.length : Int), asNeA (c := true) (Eq.trans (b := some (wEq (s.hn, s.hk) (t.hn, t.hk))) (by kernel_rfl) (congrArg some h6)) rfl, asB (c := ((s.wt != 0) != (t.wt != 0))) (by kernel_rfl) h7, nT s.op t.op, trivial⟩ trivial trivial ⟨two_entry (entOK (sameInts_b (lenS _) h2) rfl (by kernel_rfl)) (entOK (sameInts_b (lenS _) h3) rfl (by kernel_rfl)), trivial⟩ 8 (sgA) [sgS, sgT] []
theorem sg_head {res : Value} (h0 : s.x = t.x) (h1 : s.owner = t.owner) (h2 : decide (listTo s.sh 8 = listTo t.sh 8) = true) (h3 : decide (listTo s.pa 8 = listTo t.pa 8) = true) (h4 : ops8 s.ops t.ops = true) (h5 : s.line.length = t.line.length) (h6 : wEq (s.hn, s.hk) (t.hn, t.hk) = true) (h7 : ((s.wt != 0) != (t.wt != 0)) = false) (h8 : s.op = t.op) (hL : GoodS (dSG s t 0) Try.prog 19 (sgH s t) res [] [] xSG) : Ctr Try.prog 19 (sgP s t) (sgH s t) res [] := by
  · refine Ctr.of_goodS (d := (denR s (v40 t ++ [.bool (s.wt != 0), .bool (t.wt != 0), iv (s.line.length : Nat), iv (t.line.length : Nat)]) rfl [olv 4 s.line, oint 2 (listTo s.sh 8), oint 3 (listTo s.pa 8), oint 5 (listTo t.sh 8), oint 6 (listTo t.pa 8), olv 7 t.line] rfl [encL s.line, encI (listTo s.sh 8), encI (listTo s.pa 8), encL t.line, encI (listTo t.sh 8), encI (listTo t.pa 8)] (rowsK (by repeat first | exact PL.nil | refine PL.cons ?_ ?_ | exact encL_plain _ | exact encOrds_plain _ | exact encI_plain _)))) [] (c0 := 8) (A0 := sgA) (args0 := [sgS, sgT]) (by kernel_rfl) (by kernel_rfl) (by kernel_rfl) ?_
    exact @goodS_seg (denR s (v40 t ++ [.bool (s.wt != 0), .bool (t.wt != 0), iv (s.line.length : Nat), iv (t.line.length : Nat)]) rfl [olv 4 s.line, oint 2 (listTo s.sh 8), oint 3 (listTo s.pa 8), oint 5 (listTo t.sh 8), oint 6 (listTo t.pa 8), olv 7 t.line] rfl [encL s.line, encI (listTo s.sh 8), encI (listTo s.pa 8), encL t.line, encI (listTo t.sh 8), encI (listTo t.pa 8)] (rowsK (by repeat first | exact PL.nil | refine PL.cons ?_ ?_ | exact encL_plain _ | exact encOrds_plain _ | exact encI_plain _))) (dSG s t 0) Try.prog mixed ⟨[(.bin .neq 3 (sv 0) (sv 40), .bool false), (.bin .neq 3 (sv 1) (sv 41), .bool false), (.bin .neq 30 (.agg (v8 18)) (.agg (v8 58)), .bool false), (.len 31 (ch 0), sv 82), (.len 31 (ch 5), sv 83), (.bin .neq 3 (sv 82) (sv 83), .bool false), (.bin .neq 34 (.agg #[sv 27, sv 28]) (.agg #[sv 67, sv 68]), .bool false), (.bin .neq 4 (sv 80) (sv 81), .bool false), (.bin .neq 2 (sv 39) (sv 79), .bool false)], [], []⟩ [(61, [eSJ 1 3 10 2 5 1 4 true, eSJ 2 4 10 3 6 2 5 true])] ⟨nF s.x t.x, nF s.owner t.owner, asNeA (c := true) (Eq.trans (b := some (ops8 s.ops t.ops)) (by kernel_rfl) (congrArg some h4)) rfl, asLen u31 rfl (by kernel_rfl), asLen u31 rfl (by kernel_rfl), nF (s.line.length : Int) (t.line.length : Int), asNeA (c := true) (Eq.trans (b := some (wEq (s.hn, s.hk) (t.hn, t.hk))) (by kernel_rfl) (congrArg some h6)) rfl, asB (c := ((s.wt != 0) != (t.wt != 0))) (by kernel_rfl) h7, nF s.op t.op, trivial⟩ trivial trivial ⟨two_entry (entOK (sameInts_b (lenS _) h2) rfl (by kernel_rfl)) (entOK (sameInts_b (lenS _) h3) rfl (by kernel_rfl)), trivial⟩ 100 11 19 _ _ _ _ _ [(2, 2), (3, 3), (4, 4), (5, 5), (6, 6), (7, 7), (8, 8), (9, 9)] [] _ _ _ _ _ _ (by kernel_rfl) (by kernel_rfl) (by kernel_rfl) hL
theorem sg_hit (_hl : s.line.length < 1000000) (he : s.line.length = t.line.length) (hi : i < s.line.length) (hx : s.line[i]? = some w) (hy : t.line[i]? = some v) (hne : w ≠ v) : GoodS (dSG s t i) Try.prog 19 (sgH s t) (.bool false) [] [] xSG := by
  · refine goodS_den (d2 := (denR s (v40 t ++ [.bool (s.wt != 0), .bool (t.wt != 0), iv (s.line.length : Nat), iv (t.line.length : Nat), iv (i : Nat), iv w.1, iv w.2, iv v.1, iv v.2]) rfl [olv 4 s.line, oint 2 (listTo s.sh 8), oint 3 (listTo s.pa 8), oint 5 (listTo t.sh 8), oint 6 (listTo t.pa 8), olv 7 t.line, .v (pt 4 (i * 2)), .v (pt 7 (i * 2))] rfl [encL s.line, encI (listTo s.sh 8), encI (listTo s.pa 8), encL t.line, encI (listTo t.sh 8), encI (listTo t.pa 8)] (rowsK (by repeat first | exact PL.nil | refine PL.cons ?_ ?_ | exact encL_plain _ | exact encOrds_plain _ | exact encI_plain _)))) mixed (by kernel_rfl) (by kernel_rfl) (by kernel_rfl) ?_
    exact @goodS_fin (denR s (v40 t ++ [.bool (s.wt != 0), .bool (t.wt != 0), iv (s.line.length : Nat), iv (t.line.length : Nat), iv (i : Nat), iv w.1, iv w.2, iv v.1, iv v.2]) rfl [olv 4 s.line, oint 2 (listTo s.sh 8), oint 3 (listTo s.pa 8), oint 5 (listTo t.sh 8), oint 6 (listTo t.pa 8), olv 7 t.line, .v (pt 4 (i * 2)), .v (pt 7 (i * 2))] rfl [encL s.line, encI (listTo s.sh 8), encI (listTo s.pa 8), encL t.line, encI (listTo t.sh 8), encI (listTo t.pa 8)] (rowsK (by repeat first | exact PL.nil | refine PL.cons ?_ ?_ | exact encL_plain _ | exact encOrds_plain _ | exact encI_plain _))) Try.prog mixed ⟨[(.len 31 (ch 0), sv 82), (.bin .lss 3 (sv 84) (sv 82), .bool true), (.ixa 31 (ch 0) (sv 84), ch 6), (.ixa 31 (ch 5) (sv 84), ch 7), (.bin .neq 34 (.agg #[sv 85, sv 86]) (.agg #[sv 87, sv 88]), .bool true)], [⟨34, 6, 4, 0, .agg #[sv 85, sv 86]⟩, ⟨34, 7, 7, 3, .agg #[sv 87, sv 88]⟩], []⟩ [] ⟨asLen u31 rfl (by kernel_rfl), qT ((i : Int) < (s.line.length : Int)), asIxaM u31 z34 rfl rfl (by omega) (by omega) rfl (by simp), asIxaM u31 z34 rfl rfl (by omega) (by omega) rfl (by simp), asNeA (c := false) (Eq.trans (b := some (wEq w v)) (by kernel_rfl) (congrArg some (wEq_ne hne))) rfl, trivial⟩ ⟨ld_agg a34 z34 rfl (show i * 2 + 2 ≤ (encL s.line).length by rw [encL_len]; omega) (encL_at s.line i w hx) rfl (by kernel_rfl), ld_agg a34 z34 rfl (show i * 2 + 2 ≤ (encL t.line).length by rw [encL_len]; omega) (encL_at t.line i v hy) rfl (by kernel_rfl), trivial⟩ trivial trivial 100 14 19 _ _ _ _ _ [] [] (by kernel_rfl) (by kernel_rfl)
theorem sg_miss {res : Value} (hl : s.line.length < 1000000) (he : s.line.length = t.line.length) (hi : i < s.line.length) (hx : s.line[i]? = some w) (hy : t.line[i]? = some v) (hne : w = v) (h : GoodS (dSG s t (i + 1)) Try.prog 19 (sgH s t) res [] [] xSG) : GoodS (dSG s t i) Try.prog 19 (sgH s t) res [] [] xSG := by
  · refine goodS_den (d2 := (denR s (v40 t ++ [.bool (s.wt != 0), .bool (t.wt != 0), iv (s.line.length : Nat), iv (t.line.length : Nat), iv (i : Nat), iv w.1, iv w.2, iv v.1, iv v.2, iv ((i + 1 : Nat) : Int)]) rfl [olv 4 s.line, oint 2 (listTo s.sh 8), oint 3 (listTo s.pa 8), oint 5 (listTo t.sh 8), oint 6 (listTo t.pa 8), olv 7 t.line, .v (pt 4 (i * 2)), .v (pt 7 (i * 2))] rfl [encL s.line, encI (listTo s.sh 8), encI (listTo s.pa 8), encL t.line, encI (listTo t.sh 8), encI (listTo t.pa 8)] (rowsK (by repeat first | exact PL.nil | refine PL.cons ?_ ?_ | exact encL_plain _ | exact encOrds_plain _ | exact encI_plain _)))) mixed (by kernel_rfl) (by kernel_rfl) (by kernel_rfl) ?_
    exact @goodS_seg (denR s (v40 t ++ [.bool (s.wt != 0), .bool (t.wt != 0), iv (s.line.length : Nat), iv (t.line.length : Nat), iv (i : Nat), iv w.1, iv w.2, iv v.1, iv v.2, iv ((i + 1 : Nat) : Int)]) rfl [olv 4 s.line, oint 2 (listTo s.sh 8), oint 3 (listTo s.pa 8), oint 5 (listTo t.sh 8), oint 6 (listTo t.pa 8), olv 7 t.line, .v (pt 4 (i * 2)), .v (pt 7 (i * 2))] rfl [encL s.line, encI (listTo s.sh 8), encI (listTo s.pa 8), encL t.line, encI (listTo t.sh 8), encI (listTo t.pa 8)] (rowsK (by repeat first | exact PL.nil | refine PL.cons ?_ ?_ | exact encL_plain _ | exact encOrds_plain _ | exact encI_plain _))) (dSG s t (i + 1)) Try.prog mixed ⟨[(.len 31 (ch 0), sv 82), (.bin .lss 3 (sv 84) (sv 82), .bool true), (.ixa 31 (ch 0) (sv 84), ch 6), (.ixa 31 (ch 5) (sv 84), ch 7), (.bin .neq 34 (.agg #[sv 85, sv 86]) (.agg #[sv 87, sv 88]), .bool false), (.bin .add 3 (sv 84) (iv 1), sv 89)], [⟨34, 6, 4, 0, .agg #[sv 85, sv 86]⟩, ⟨34, 7, 7, 3, .agg #[sv 87, sv 88]⟩], []⟩ [] ⟨asLen u31 rfl (by kernel_rfl), qT ((i : Int) < (s.line.length : Int)), asIxaM u31 z34 rfl rfl (by omega) (by omega) rfl (by simp), asIxaM u31 z34 rfl rfl (by omega) (by omega) rfl (by simp), asNeA (c := true) (Eq.trans (b := some (wEq w v)) (by kernel_rfl) (congrArg some (wEq_eq hne))) rfl, asP (u := iv ((i + 1 : Nat) : Int)) (Eq.trans (b := some (iv (IntKind.i64.wrap ((i : Int) + 1)))) (by kernel_rfl) (by rw [wrap_id (by omega) (by omega)]; rfl)) (by kernel_rfl), trivial⟩ ⟨ld_agg a34 z34 rfl (show i * 2 + 2 ≤ (encL s.line).length by rw [encL_len]; omega) (encL_at s.line i w hx) rfl (by kernel_rfl), ld_agg a34 z34 rfl (show i * 2 + 2 ≤ (encL t.line).length by rw [encL_len]; omega) (encL_at t.line i v hy) rfl (by kernel_rfl), trivial⟩ trivial trivial 100 12 19 _ _ _ _ _ [(2, 2), (3, 3), (4, 4), (5, 5), (6, 6), (7, 7), (8, 8), (9, 9)] [] _ _ _ _ _ _ (by kernel_rfl) (by kernel_rfl) (by kernel_rfl) h
theorem sg_end : GoodS (dSG s t s.line.length) Try.prog 19 (sgH s t) (.bool true) [] [] xSG := by
  · refine goodS_den (d2 := (denR s (v40 t ++ [.bool (s.wt != 0), .bool (t.wt != 0), iv (s.line.length : Nat), iv (t.line.length : Nat), iv (s.line.length : Nat)]) rfl [olv 4 s.line, oint 2 (listTo s.sh 8), oint 3 (listTo s.pa 8), oint 5 (listTo t.sh 8), oint 6 (listTo t.pa 8), olv 7 t.line] rfl [encL s.line, encI (listTo s.sh 8), encI (listTo s.pa 8), encL t.line, encI (listTo t.sh 8), encI (listTo t.pa 8)] (rowsK (by repeat first | exact PL.nil | refine PL.cons ?_ ?_ | exact encL_plain _ | exact encOrds_plain _ | exact encI_plain _)))) mixed (by kernel_rfl) (by kernel_rfl) (by kernel_rfl) ?_
    exact @goodS_fin (denR s (v40 t ++ [.bool (s.wt != 0), .bool (t.wt != 0), iv (s.line.length : Nat), iv (t.line.length : Nat), iv (s.line.length : Nat)]) rfl [olv 4 s.line, oint 2 (listTo s.sh 8), oint 3 (listTo s.pa 8), oint 5 (listTo t.sh 8), oint 6 (listTo t.pa 8), olv 7 t.line] rfl [encL s.line, encI (listTo s.sh 8), encI (listTo s.pa 8), encL t.line, encI (listTo t.sh 8), encI (listTo t.pa 8)] (rowsK (by repeat first | exact PL.nil | refine PL.cons ?_ ?_ | exact encL_plain _ | exact encOrds_plain _ | exact encI_plain _))) Try.prog mixed ⟨[(.len 31 (ch 0), sv 82), (.bin .lss 3 (sv 84) (sv 82), .bool false)], [], []⟩ [] ⟨asLen u31 rfl (by kernel_rfl), qF ((s.line.length : Int) < (s.line.length : Int)), trivial⟩ trivial trivial trivial 100 10 19 _ _ _ _ _ [] [] (by kernel_rfl) (by kernel_rfl)
end
theorem sg_all {s t : St} (hl : s.line.length < 1000000) (he : s.line.length = t.line.length) : ∀ (k i : Nat), i + k = s.line.length → GoodS (dSG s t i) Try.prog 19 (sgH s t) (.bool (decide (s.line.drop i = t.line.drop i))) [] [] xSG := by
  intro k
  induction k with
  | zero =>
    intro i hi
    have : i = s.line.length := by omega
    subst this
    rw [List.drop_length, he, List.drop_length, ← he, decide_eq_true rfl]
    exact sg_end
  | succ k ih =>
    intro i hi
    have h1 : i < s.line.length := by omega
    have h2 : i < t.line.length := by omega
    have hx : s.line[i]? = some s.line[i] := by simp [h1]
    have hy : t.line[i]? = some t.line[i] := by simp [h2]
    rw [List.drop_eq_getElem_cons h1, List.drop_eq_getElem_cons h2]
    by_cases hxy : s.line[i] = t.line[i]
    · have h := ih (i + 1) (by omega)
      have e : (s.line[i] :: s.line.drop (i + 1) = t.line[i] :: t.line.drop (i + 1)) ↔ s.line.drop (i + 1) = t.line.drop (i + 1) := ⟨fun h => (List.cons.inj h).2, fun h => by rw [hxy, h]⟩
      rw [show decide (s.line[i] :: s.line.drop (i + 1) = t.line[i] :: t.line.drop (i + 1)) = decide (s.line.drop (i + 1) = t.line.drop (i + 1)) from decide_eq_decide.2 e]
      exact sg_miss hl he h1 hx hy hxy h
    · rw [decide_eq_false (fun h => hxy (List.cons.inj h).1)]
      exact sg_hit hl he h1 hx hy hxy
def bookEq (s t : St) : Bool := if s.x = t.x then if s.owner = t.owner then if decide (listTo s.sh 8 = listTo t.sh 8) = true then if decide (listTo s.pa 8 = listTo t.pa 8) = true then if ops8 s.ops t.ops = true then if s.line.length = t.line.length then if wEq (s.hn, s.hk) (t.hn, t.hk) = true then if ((s.wt != 0) != (t.wt != 0)) = false then if s.op = t.op then decide (s.line = t.line) else false else false else false else false else false else false else false else false else false
theorem book_b {s t : St} (hl : s.line.length < 1000000) : Ctr Try.prog 19 (sgP s t) (sgH s t) (.bool (bookEq s t)) [] := by
  unfold bookEq
  by_cases h0 : s.x = t.x
  · rw [if_pos h0]
    by_cases h1 : s.owner = t.owner
    · rw [if_pos h1]
      by_cases h2 : decide (listTo s.sh 8 = listTo t.sh 8) = true
      · rw [if_pos h2]
        by_cases h3 : decide (listTo s.pa 8 = listTo t.pa 8) = true
        · rw [if_pos h3]
          by_cases h4 : ops8 s.ops t.ops = true
          · rw [if_pos h4]
            by_cases h5 : s.line.length = t.line.length
            · rw [if_pos h5]
              by_cases h6 : wEq (s.hn, s.hk) (t.hn, t.hk) = true
              · rw [if_pos h6]
                by_cases h7 : ((s.wt != 0) != (t.wt != 0)) = false
                · rw [if_pos h7]
                  by_cases h8 : s.op = t.op
                  · rw [if_pos h8]
                    exact sg_head h0 h1 h2 h3 h4 h5 h6 h7 h8 (by have h := sg_all hl h5 s.line.length 0 (Nat.zero_add _); rwa [List.drop_zero, List.drop_zero] at h)
                  · rw [if_neg h8]
                    exact sg_8 h0 h1 h2 h3 h4 h5 h6 h7 h8
                · rw [if_neg h7]
                  exact sg_7 h0 h1 h2 h3 h4 h5 h6 (by cases hb : ((s.wt != 0) != (t.wt != 0)) with | true => rfl | false => exact absurd hb h7)
              · rw [if_neg h6]
                exact sg_6 h0 h1 h2 h3 h4 h5 (Bool.eq_false_iff.2 h6)
            · rw [if_neg h5]
              exact sg_5 h0 h1 h2 h3 h4 h5
          · rw [if_neg h4]
            exact sg_4 h0 h1 h2 h3 (Bool.eq_false_iff.2 h4)
        · rw [if_neg h3]
          exact sg_3 h0 h1 h2 (Bool.eq_false_iff.2 h3)
      · rw [if_neg h2]
        exact sg_2 h0 h1 (Bool.eq_false_iff.2 h2)
    · rw [if_neg h1]
      exact sg_1 h0 h1
  · rw [if_neg h0]
    exact sg_0  h0
theorem book_lit {s t : St} {b : Bool} (hl : s.line.length < 1000000) (hb : bookEq s t = b) : Ctr Try.prog 19 (sgP s t) (sgH s t) (.bool b) [] := by
  subst hb; exact book_b hl
theorem sliM (id : Nat) (w : List (Int × Int)) (hl : w.length < 1000000) : sliceA Try.prog 31 (lineV id w) none (some (.int .i64 (w.length : Nat))) (some (.int .i64 (w.length : Nat))) = some (.slice (some ⟨id, 0, none⟩) w.length w.length) := by
  cases w with
  | nil => rfl
  | cons x l =>
    unfold lineV capL
    rw [if_neg (by simp)]
    have e : ∀ y, boundA (x :: l).length (some (.int .i64 ((x :: l).length : Nat))) y = some (x :: l).length := fun y => by
      show (bif decide ((0 : Int) ≤ ((x :: l).length : Nat) ∧ (((x :: l).length : Nat) : Int) ≤ (((x :: l).length : Nat) : Int)) then some (((x :: l).length : Nat) : Int).toNat else none) = _
      rw [decide_eq_true (by omega)]; rfl
    have q : knownCap INF = false := by kernel_rfl
    have q2 : knownCap (x :: l).length = true := by
      unfold knownCap
      rw [Nat.blt_eq]
      unfold HALF; omega
    unfold sliceA
    simp only [u31, z34, q, cond_false, e]
    simp only [boundA, Option.isSome_some, Bool.not_true, Bool.and_false, cond_false, Bool.true_or, cond_true, q2, Nat.sub_zero]
    rw [if_neg (by simp)]
    simp [Addr.add]
theorem asSliM {d : Den} {a i r id : Nat} {w : List (Int × Int)} (ho : d.o a = lineV id w) (hv : d.v i = .int .i64 (w.length : Nat)) (hr : d.o r = .slice (some ⟨id, 0, none⟩) w.length w.length) (hl : w.length < 1000000) : @AK.Ok d Try.prog (.sli 31 (.chan (some a)) none (some (.float .f64 i)) (some (.float .f64 i))) (.chan (some r)) := by
  refine asm_sli ?_
  show sliceA Try.prog 31 (d.o a) none (some (d.v i)) (some (d.v i)) = some (d.o r)
  rw [ho, hv, hr]
  exact sliM id w hl
theorem app_copy (x : Int × Int) (l : List (Int × Int)) (h : (x :: l).length < 1000000) : AppC Try.prog [31, 31] [.slice (some ⟨0, 0, none⟩) 0 0, .slice (some ⟨1, 0, none⟩) (x :: l).length (x :: l).length] [(0, .row 34 (.lst []) true), (1, .row 34 (.lst (encL (x :: l))) true)] (.slice (some ⟨2, 0, none⟩) (x :: l).length INF) [(2, .row 34 (.lst (encL (x :: l))) false)] := by
  have h := AppC.cap (P := Try.prog) elemW (bl := []) (l := encL (x :: l)) (n := 0) (m := (x :: l).length) (off := 0) (cp := (x :: l).length) (T := 34) (Tb := 34) rfl rfl (by simp) (by rw [encL_len]; simp only [List.length_cons]; omega) (encL_plain _) (by omega) (by unfold HALF; omega)
  have e : [] ++ ((encL (x :: l)).drop 0).take ((x :: l).length * 2) = encL (x :: l) := by
    rw [List.nil_append, List.drop_zero, List.take_of_length_le (by rw [encL_len]; omega)]
  rw [e, Nat.zero_add] at h
  exact h
def eCpP (a r c k : Nat) : Entry := { args := [.slice (some ⟨a, 0, none⟩) 0 0, .chan (some r)], c := c, foots := [⟨a, 0, true, .row 34 (.lst []) false, .row 34 (.lst []) false⟩, ⟨1, 1, true, .orow 34 0 false, .orow 34 0 false⟩], news := [(2, .orow 34 1 false)], res := .chan (some k) }
def cpA0 : HL := [(0, .row 73 (.lst (syms [(26, .slice (some ⟨1, 0, none⟩) 0 0)])) false), (1, .row 34 (.lst []) false)]
def copyB (s : St) : HL := lockA 1 s ++ [(2, .row 73 (.lst (cells s (lineV 3 s.line))) false), (3, .row 34 (.lst (encL s.line)) false)]
theorem copy_nil (s : St) : Ctr Try.prog 28 lockP (lockA 1 { s with line := [] }) (.pointer (some ⟨2, 0, none⟩)) (copyB { s with line := [] }) := by
  · skip
    exact pth (denR s [] rfl [.v ((.bool false))] rfl [] no_rows) ⟨[], [], []⟩ [] trivial trivial trivial trivial 2 (cpA0) lockP [(0, 0), (1, 1), (2, 2), (3, 3)]
theorem copy_cons (s : St) (x : Int × Int) (l : List (Int × Int)) (hl : (x :: l).length < 1000000) : Ctr Try.prog 28 lockP (lockA 1 { s with line := x :: l }) (.pointer (some ⟨2, 0, none⟩)) (copyB { s with line := x :: l }) := by
  · skip
    exact pth (denR s [iv ((x :: l).length : Nat)] rfl [.v (lineV 1 (x :: l)), .v (.slice (some ⟨1, 0, none⟩) (x :: l).length (x :: l).length), .v (lineV 4 (x :: l))] rfl [encL (x :: l), encL (x :: l)] (rows2 (encL_plain _) (encL_plain _))) ⟨[(.bin .neq 31 (ch 0) (.slice none 0 0), .bool true), (.len 31 (ch 0), sv 40), (.sli 31 (ch 0) none (some (sv 40)) (some (sv 40)), ch 1)], [], [([31, 31], eCpP 3 1 4 2)]⟩ [] ⟨asNeS u31 rfl, asLen u31 rfl (by kernel_rfl), asSliM rfl rfl rfl (by simpa using hl), trivial⟩ trivial ⟨ap (app_copy x l hl), trivial⟩ trivial 2 (lockL []) lockP [(0, 0), (1, 1), (2, 2), (4, 3)]
theorem copy_ctr {s : St} (hl : s.line.length < 1000000) : Ctr Try.prog 28 lockP (lockA 1 s) (.pointer (some ⟨2, 0, none⟩)) (copyB s) := by
  cases h : s.line with
  | nil =>
    have e : s = { s with line := [] } := by rw [← h]
    rw [e]; exact copy_nil s
  | cons x l =>
    have e : s = { s with line := x :: l } := by rw [← h]
    rw [h] at hl
    rw [e]; exact copy_cons s x l hl
end Go.Proofs.Ytjpgnjaobfbojaa

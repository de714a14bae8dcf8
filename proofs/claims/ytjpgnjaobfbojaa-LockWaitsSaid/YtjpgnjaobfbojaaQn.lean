import Derived.Test.YtjpgnjaobfbojaaQm
namespace Go.Proofs.Ytjpgnjaobfbojaa
open Go.Sx
set_option maxRecDepth 20000
def hP0 (T : TypeId) : HL := [(5, .orow T 1 true)]
def hP1 (T : TypeId) : HL := [(0, .row 73 (.lst (syms [])) false), (1, .orow 34 0 false), (2, .row 52 (.lst (syms [(26, .chan (some 1))])) false), (3, .mrow 34 0 false), (5, .orow T 1 true)]
def hW1 (T : TypeId) : HL := hP1 T ++ [(6, .mrow 45 2 false)]
def fW1 : FV := [(0, .chan (some 2)), (3, .pointer (some ⟨0, 0, none⟩)), (4, .pointer (some ⟨2, 0, none⟩)), (5, .chan (some 3)), (6, sv 40)]
def fW0 : FV := [(0, .chan (some 2)), (3, .pointer (some ⟨0, 0, none⟩)), (4, .pointer (some ⟨2, 0, none⟩)), (5, .slice none 0 0), (6, .int .i64 0)]
def wasC : List Value := [sv 42, sv 43, .chan (some 4), .chan (some 5), sv 44, sv 45, sv 46, sv 47, sv 48, sv 49, sv 50, sv 51, .chan (some 6), sv 52, sv 53, sv 54, sv 55]
def nowC (b : Value) : List Value := [sv 0, sv 1, .chan (some 7), .chan (some 8), sv 18, sv 19, sv 20, sv 21, sv 22, sv 23, sv 24, sv 25, .chan (some 9), sv 27, sv 28, b, sv 39]
def hW2 (T : TypeId) (b : Value) : HL := hW1 T ++ [(7, .row 36 (.lst wasC) false), (8, .mrow 3 3 false), (9, .mrow 3 4 false), (10, .orow 34 5 false), (11, .row 36 (.lst (nowC b)) false), (12, .mrow 3 6 false), (13, .mrow 3 7 false), (14, .orow 34 0 false)]
def fW2 (sm : Bool) : FV := fW1 ++ [(7, .pointer (some ⟨7, 0, none⟩)), (10, .pointer (some ⟨11, 0, none⟩)), (11, .bool sm), (12, sv 41)]
def fW3 : FV := fW1 ++ [(7, .pointer (some ⟨7, 0, none⟩)), (10, .pointer (some ⟨11, 0, none⟩)), (13, sv 41)]
def kskip0 : Nat → List KI → List KI
  | 0, k => k
  | m + 1, .code (.seq a b) :: k => kskip0 m (.code a :: .code b :: k)
  | m + 1, .code (.block id b) :: k => kskip0 m (.code b :: .blk id :: k)
  | m + 1, .code (.loop b) :: k => kskip0 m (.code b :: .lp b :: k)
  | m + 1, .code _ :: k => kskip0 m k
  | m + 1, .blk _ :: k => kskip0 m k
  | m + 1, .lp b :: k => kskip0 m (.code b :: .lp b :: k)
  | _ + 1, [] => []
noncomputable def kW1 : List KI := kskip 17 [.code (codeOf Try.prog 3)]
noncomputable def kW2 : List KI := kskip 25 kW1
noncomputable def kW3 : List KI := kskip0 23 kW1
noncomputable def xW1 (T : TypeId) : Cfg := headC kW1 .normal fW1 107 7 (hW1 T)
noncomputable def xW2 (T : TypeId) (sm : Bool) : Cfg := headC kW2 .normal (fW2 sm) 107 15 (hW2 T (.bool true))
noncomputable def xW3 (T : TypeId) : Cfg := headC kW3 .normal fW3 107 15 (hW2 T (sv 56))
noncomputable abbrev dW1 (s : St) (sts : List Stp) (cp : Nat) (told : List Ord) (i : Nat) : Den := ds s [.int .i64 (i : Nat)] [.v (lineV 1 s.line), olv 3 s.line, .v (stsV sts cp), oord 6 INF told] [encL s.line, encS sts, encOrds told]
def wasL (u : St) : List Value := [.int .i64 u.x, .int .i64 u.owner, .int .i64 (u.ops 0), .int .i64 (u.ops 1), .int .i64 (u.ops 2), .int .i64 (u.ops 3), .int .i64 (u.ops 4), .int .i64 (u.ops 5), .int .i64 (u.ops 6), .int .i64 (u.ops 7), .int .i64 u.hn, .int .i64 u.hk, .bool (u.wt != 0), .int .i64 u.op]
noncomputable abbrev dW2 (u s : St) (sts : List Stp) (cp : Nat) (told : List Ord) (i k : Nat) : Den := ds s ([.int .i64 (i : Nat), .int .i64 (k : Nat)] ++ wasL u) [.v (lineV 1 s.line), olv 3 s.line, .v (stsV sts cp), oord 6 INF told, oint 8 (listTo u.sh 8), oint 9 (listTo u.pa 8), .v (lineV 10 u.line), oint 12 (listTo s.sh 8), oint 13 (listTo s.pa 8), .v (lineV 14 s.line)] [encL s.line, encS sts, encOrds told, encI (listTo u.sh 8), encI (listTo u.pa 8), encL u.line, encI (listTo s.sh 8), encI (listTo s.pa 8)]
noncomputable abbrev dW3 (u s : St) (sts : List Stp) (cp : Nat) (told : List Ord) (i k : Nat) (bz : Bool) : Den := ds s ([.int .i64 (i : Nat), .int .i64 (k : Nat)] ++ wasL u ++ [.bool bz]) [.v (lineV 1 s.line), olv 3 s.line, .v (stsV sts cp), oord 6 INF told, oint 8 (listTo u.sh 8), oint 9 (listTo u.pa 8), .v (lineV 10 u.line), oint 12 (listTo s.sh 8), oint 13 (listTo s.pa 8), .v (lineV 14 s.line)] [encL s.line, encS sts, encOrds told, encI (listTo u.sh 8), encI (listTo u.pa 8), encL u.line, encI (listTo s.sh 8), encI (listTo s.pa 8)]
def GW (T : TypeId) (sts : List Stp) (d : Den) (x : Cfg) : Prop := GoodS d Try.prog 3 [(5, .row T (.lst (encS sts)) true)] (.bool true) [] [] x
section
variable {s t u : St} {sts : List Stp} {cp i k : Nat} {told o : List Ord} {x : Ord} {l : List Ord} {T : TypeId} {bz : Bool}
theorem waits_end : GW T sts (dW1 s sts cp told sts.length) (xW1 T) := by
  · exact gF (ds s [iv (sts.length : Nat)] [.v (lineV 1 s.line), olv 3 s.line, .v (stsV sts cp), oord 6 INF told] [encL s.line, encS sts, encOrds told]) ⟨[(.len 22 (ch 2), sv 40), kf .lss 3 (sv 40) (sv 40)], [], []⟩ [(12, [eKn 7])] ⟨asLen u22 rfl (by kernel_rfl), qF ((sts.length : Int) < (sts.length : Int)), trivial⟩ trivial trivial ⟨oe known_ctr, trivial⟩ 10 []
theorem waits_busy_nil {c1 c2 : Nat} (hi : i < sts.length) (hl0 : s.line.length < 100000) (hl : t.line.length < 100000) (_ht : told.length < 1000000) (hbusy : (t.wt != 0) = true) (hD : Ctr Try.prog 16 [.pointer (some ⟨0, 0, none⟩), .pointer (some ⟨2, 0, none⟩), stepV (stAt sts i).k (stAt sts i).n (stAt sts i).m (stAt sts i).op (stAt sts i).psn] (twoA s) (.tuple #[ordR 6 c1 [], ordR 7 c2 []]) (twoE t [])) (hg : GW T sts (dW2 s t sts cp told i 0) (xW2 T false)) : GW T sts (dW1 s sts cp told i) (xW1 T) := by
  · exact gS (ds s ([iv (i : Nat), iv (sts.length : Nat), .bool (s.wt != 0), iv (stAt sts i).k, iv (stAt sts i).n, iv (stAt sts i).m, iv (stAt sts i).op, iv (stAt sts i).psn] ++ tv t) [.v (lineV 1 s.line), olv 3 s.line, .v (stsV sts cp), oord 6 INF told, oint 7 (listTo s.sh 8), oint 8 (listTo s.pa 8), .v (lineV 9 s.line), .v (pt 5 (i * 5)), .v (lineV 11 t.line), olv 12 t.line, oord 13 c1 [], oord 14 c2 [], oint 15 (listTo t.sh 8), oint 16 (listTo t.pa 8), .v (lineV 17 t.line)] [encL s.line, encS sts, encOrds told, encI (listTo s.sh 8), encI (listTo s.pa 8), encL t.line, encOrds [], encI (listTo t.sh 8), encI (listTo t.pa 8)]) (dW2 s t sts cp told i 0) ⟨[(.len 22 (ch 2), sv 41), kt .lss 3 (sv 40) (sv 41), (.ixa 22 (ch 2) (sv 40), ch 7)], [⟨42, 7, 5, 1, .agg #[sv 43, sv 44, sv 45, sv 46, sv 47]⟩], [([28, 28], eApZ 3 10 15 6 13 (.mrow 45 2 false) (.mrow 45 6 false))]⟩ [(15, [eBk 7 0 1 (.row 73 (.lst (syms [])) false) (.orow 34 0 false) 0 4 42 3 4 (.orow 34 0 false), eBkL 15 0 11 (.row 73 (.lst (symsT 48 8)) false) (.orow 34 5 false) 48 12 true 7 8 (.orow 34 5 false)]), (16, [eDo [pt 0 0, pt 2 0, .agg #[sv 43, sv 44, sv 45, sv 46, sv 47]] 11 0 1 2 3 (.row 73 (.lst (syms [])) false) (.orow 34 0 false) (.row 52 (.lst (syms [(26, ch 1)])) false) (.mrow 34 0 false) 48 8 5])] ⟨asLen u22 rfl (by kernel_rfl), qT ((i : Int) < (sts.length : Int)), asIxa u22 z42 rfl rfl (by omega) (by omega) rfl (by simp), trivial⟩ ⟨ld_agg a42 z42 rfl (st_len hi) (st_row hi) rfl (by kernel_rfl), trivial⟩ ⟨ap (app_oNone2 told c1), trivial⟩ ⟨two_entry (entOK (bookG_ctr (s := s) (by omega)) rfl (by kernel_rfl)) (entOK (bookG_b (s := t) (by omega) hbusy) rfl (by kernel_rfl)), oe hD, trivial⟩ 25 [(0, 0), (11, 1), (2, 2), (12, 3), (5, 5), (6, 6), (10, 7), (7, 8), (8, 9), (9, 10), (18, 11), (15, 12), (16, 13), (17, 14)] hg
theorem waits_busy_cons {c1 c2 : Nat} (hi : i < sts.length) (hl0 : s.line.length < 100000) (hl : t.line.length < 100000) (ht : (told ++ x :: l).length < 1000000) (hbusy : (t.wt != 0) = true) (hD : Ctr Try.prog 16 [.pointer (some ⟨0, 0, none⟩), .pointer (some ⟨2, 0, none⟩), stepV (stAt sts i).k (stAt sts i).n (stAt sts i).m (stAt sts i).op (stAt sts i).psn] (twoA s) (.tuple #[ordR 6 c1 (x :: l), ordR 7 c2 (x :: l)]) (twoE t (x :: l))) (hg : GW T sts (dW2 s t sts cp (told ++ x :: l) i 0) (xW2 T false)) : GW T sts (dW1 s sts cp told i) (xW1 T) := by
  · exact gS (ds s ([iv (i : Nat), iv (sts.length : Nat), .bool (s.wt != 0), iv (stAt sts i).k, iv (stAt sts i).n, iv (stAt sts i).m, iv (stAt sts i).op, iv (stAt sts i).psn] ++ tv t) [.v (lineV 1 s.line), olv 3 s.line, .v (stsV sts cp), oord 6 INF told, oint 7 (listTo s.sh 8), oint 8 (listTo s.pa 8), .v (lineV 9 s.line), .v (pt 5 (i * 5)), .v (lineV 11 t.line), olv 12 t.line, oord 13 c1 (x :: l), oord 14 c2 (x :: l), oord 15 INF (told ++ x :: l), oint 16 (listTo t.sh 8), oint 17 (listTo t.pa 8), .v (lineV 18 t.line)] [encL s.line, encS sts, encOrds told, encI (listTo s.sh 8), encI (listTo s.pa 8), encL t.line, encOrds (x :: l), encOrds (told ++ x :: l), encI (listTo t.sh 8), encI (listTo t.pa 8)]) (dW2 s t sts cp (told ++ x :: l) i 0) ⟨[(.len 22 (ch 2), sv 41), kt .lss 3 (sv 40) (sv 41), (.ixa 22 (ch 2) (sv 40), ch 7)], [⟨42, 7, 5, 1, .agg #[sv 43, sv 44, sv 45, sv 46, sv 47]⟩], [([28, 28], eApB 3 10 15 6 13 (.mrow 45 2 false) (.mrow 45 6 false) 7 12)]⟩ [(15, [eBk 7 0 1 (.row 73 (.lst (syms [])) false) (.orow 34 0 false) 0 4 42 3 4 (.orow 34 0 false), eBkL 16 0 11 (.row 73 (.lst (symsT 48 8)) false) (.orow 34 5 false) 48 13 true 8 9 (.orow 34 5 false)]), (16, [eDo [pt 0 0, pt 2 0, .agg #[sv 43, sv 44, sv 45, sv 46, sv 47]] 11 0 1 2 3 (.row 73 (.lst (syms [])) false) (.orow 34 0 false) (.row 52 (.lst (syms [(26, ch 1)])) false) (.mrow 34 0 false) 48 8 5])] ⟨asLen u22 rfl (by kernel_rfl), qT ((i : Int) < (sts.length : Int)), asIxa u22 z42 rfl rfl (by omega) (by omega) rfl (by simp), trivial⟩ ⟨ld_agg a42 z42 rfl (st_len hi) (st_row hi) rfl (by kernel_rfl), trivial⟩ ⟨ap (app_oBig told x l c1 (by omega)), trivial⟩ ⟨two_entry (entOK (bookG_ctr (s := s) (by omega)) rfl (by kernel_rfl)) (entOK (bookG_b (s := t) (by omega) hbusy) rfl (by kernel_rfl)), oe hD, trivial⟩ 25 [(0, 0), (11, 1), (2, 2), (12, 3), (5, 5), (15, 6), (10, 7), (7, 8), (8, 9), (9, 10), (19, 11), (16, 12), (17, 13), (18, 14)] hg
theorem waits_idle_nil {c1 c2 : Nat} (hi : i < sts.length) (hl0 : s.line.length < 100000) (hl : t.line.length < 100000) (_ht : told.length < 1000000) (hbusy : (t.wt != 0) = false) (hD : Ctr Try.prog 16 [.pointer (some ⟨0, 0, none⟩), .pointer (some ⟨2, 0, none⟩), stepV (stAt sts i).k (stAt sts i).n (stAt sts i).m (stAt sts i).op (stAt sts i).psn] (twoA s) (.tuple #[ordR 6 c1 [], ordR 7 c2 []]) (twoE t [])) (hg : GW T sts (dW3 s t sts cp told i 0 false) (xW3 T)) : GW T sts (dW1 s sts cp told i) (xW1 T) := by
  · exact gS (ds s ([iv (i : Nat), iv (sts.length : Nat), .bool (s.wt != 0), iv (stAt sts i).k, iv (stAt sts i).n, iv (stAt sts i).m, iv (stAt sts i).op, iv (stAt sts i).psn] ++ tv t) [.v (lineV 1 s.line), olv 3 s.line, .v (stsV sts cp), oord 6 INF told, oint 7 (listTo s.sh 8), oint 8 (listTo s.pa 8), .v (lineV 9 s.line), .v (pt 5 (i * 5)), .v (lineV 11 t.line), olv 12 t.line, oord 13 c1 [], oord 14 c2 [], oint 15 (listTo t.sh 8), oint 16 (listTo t.pa 8), .v (lineV 17 t.line)] [encL s.line, encS sts, encOrds told, encI (listTo s.sh 8), encI (listTo s.pa 8), encL t.line, encOrds [], encI (listTo t.sh 8), encI (listTo t.pa 8)]) (dW3 s t sts cp told i 0 false) ⟨[(.len 22 (ch 2), sv 41), kt .lss 3 (sv 40) (sv 41), (.ixa 22 (ch 2) (sv 40), ch 7)], [⟨42, 7, 5, 1, .agg #[sv 43, sv 44, sv 45, sv 46, sv 47]⟩], [([28, 28], eApZ 3 10 15 6 13 (.mrow 45 2 false) (.mrow 45 6 false))]⟩ [(15, [eBk 7 0 1 (.row 73 (.lst (syms [])) false) (.orow 34 0 false) 0 4 42 3 4 (.orow 34 0 false), eBkL 15 0 11 (.row 73 (.lst (symsT 48 8)) false) (.orow 34 5 false) 48 12 false 7 8 (.orow 34 5 false)]), (16, [eDo [pt 0 0, pt 2 0, .agg #[sv 43, sv 44, sv 45, sv 46, sv 47]] 11 0 1 2 3 (.row 73 (.lst (syms [])) false) (.orow 34 0 false) (.row 52 (.lst (syms [(26, ch 1)])) false) (.mrow 34 0 false) 48 8 5])] ⟨asLen u22 rfl (by kernel_rfl), qT ((i : Int) < (sts.length : Int)), asIxa u22 z42 rfl rfl (by omega) (by omega) rfl (by simp), trivial⟩ ⟨ld_agg a42 z42 rfl (st_len hi) (st_row hi) rfl (by kernel_rfl), trivial⟩ ⟨ap (app_oNone2 told c1), trivial⟩ ⟨two_entry (entOK (bookG_ctr (s := s) (by omega)) rfl (by kernel_rfl)) (entOK (bookG_b (s := t) (by omega) hbusy) rfl (by kernel_rfl)), oe hD, trivial⟩ 24 [(0, 0), (11, 1), (2, 2), (12, 3), (5, 5), (6, 6), (10, 7), (7, 8), (8, 9), (9, 10), (18, 11), (15, 12), (16, 13), (17, 14)] hg
theorem waits_idle_cons {c1 c2 : Nat} (hi : i < sts.length) (hl0 : s.line.length < 100000) (hl : t.line.length < 100000) (ht : (told ++ x :: l).length < 1000000) (hbusy : (t.wt != 0) = false) (hD : Ctr Try.prog 16 [.pointer (some ⟨0, 0, none⟩), .pointer (some ⟨2, 0, none⟩), stepV (stAt sts i).k (stAt sts i).n (stAt sts i).m (stAt sts i).op (stAt sts i).psn] (twoA s) (.tuple #[ordR 6 c1 (x :: l), ordR 7 c2 (x :: l)]) (twoE t (x :: l))) (hg : GW T sts (dW3 s t sts cp (told ++ x :: l) i 0 false) (xW3 T)) : GW T sts (dW1 s sts cp told i) (xW1 T) := by
  · exact gS (ds s ([iv (i : Nat), iv (sts.length : Nat), .bool (s.wt != 0), iv (stAt sts i).k, iv (stAt sts i).n, iv (stAt sts i).m, iv (stAt sts i).op, iv (stAt sts i).psn] ++ tv t) [.v (lineV 1 s.line), olv 3 s.line, .v (stsV sts cp), oord 6 INF told, oint 7 (listTo s.sh 8), oint 8 (listTo s.pa 8), .v (lineV 9 s.line), .v (pt 5 (i * 5)), .v (lineV 11 t.line), olv 12 t.line, oord 13 c1 (x :: l), oord 14 c2 (x :: l), oord 15 INF (told ++ x :: l), oint 16 (listTo t.sh 8), oint 17 (listTo t.pa 8), .v (lineV 18 t.line)] [encL s.line, encS sts, encOrds told, encI (listTo s.sh 8), encI (listTo s.pa 8), encL t.line, encOrds (x :: l), encOrds (told ++ x :: l), encI (listTo t.sh 8), encI (listTo t.pa 8)]) (dW3 s t sts cp (told ++ x :: l) i 0 false) ⟨[(.len 22 (ch 2), sv 41), kt .lss 3 (sv 40) (sv 41), (.ixa 22 (ch 2) (sv 40), ch 7)], [⟨42, 7, 5, 1, .agg #[sv 43, sv 44, sv 45, sv 46, sv 47]⟩], [([28, 28], eApB 3 10 15 6 13 (.mrow 45 2 false) (.mrow 45 6 false) 7 12)]⟩ [(15, [eBk 7 0 1 (.row 73 (.lst (syms [])) false) (.orow 34 0 false) 0 4 42 3 4 (.orow 34 0 false), eBkL 16 0 11 (.row 73 (.lst (symsT 48 8)) false) (.orow 34 5 false) 48 13 false 8 9 (.orow 34 5 false)]), (16, [eDo [pt 0 0, pt 2 0, .agg #[sv 43, sv 44, sv 45, sv 46, sv 47]] 11 0 1 2 3 (.row 73 (.lst (syms [])) false) (.orow 34 0 false) (.row 52 (.lst (syms [(26, ch 1)])) false) (.mrow 34 0 false) 48 8 5])] ⟨asLen u22 rfl (by kernel_rfl), qT ((i : Int) < (sts.length : Int)), asIxa u22 z42 rfl rfl (by omega) (by omega) rfl (by simp), trivial⟩ ⟨ld_agg a42 z42 rfl (st_len hi) (st_row hi) rfl (by kernel_rfl), trivial⟩ ⟨ap (app_oBig told x l c1 (by omega)), trivial⟩ ⟨two_entry (entOK (bookG_ctr (s := s) (by omega)) rfl (by kernel_rfl)) (entOK (bookG_b (s := t) (by omega) hbusy) rfl (by kernel_rfl)), oe hD, trivial⟩ 24 [(0, 0), (11, 1), (2, 2), (12, 3), (5, 5), (15, 6), (10, 7), (7, 8), (8, 9), (9, 10), (19, 11), (16, 12), (17, 13), (18, 14)] hg
theorem w2_f (ht : told.length < 1000000) (hget : told[k]? = some x) (hT : x.op = s.op → x.kind ≠ 6 → GW T sts (dW2 u s sts cp told i (k + 1)) (xW2 T true)) (hF : ¬ (x.op = s.op ∧ x.kind ≠ 6) → GW T sts (dW2 u s sts cp told i (k + 1)) (xW2 T false)) : GW T sts (dW2 u s sts cp told i k) (xW2 T false) := by
  have hk := (List.getElem?_eq_some_iff.1 hget).1
  · by_cases h0 : ((x.op) : Int) = (s.op)
    · by_cases h1 : ((x.kind) : Int) = (6)
      · exact gS (ds s ([iv (i : Nat), iv (k : Nat), iv u.x, iv u.owner] ++ n8 u.ops ++ [iv u.hn, iv u.hk, .bool (u.wt != 0), iv u.op, iv (told.length : Nat), iv x.op, iv x.kind, iv ((k + 1 : Nat) : Int)]) [.v (lineV 1 s.line), olv 3 s.line, .v (stsV sts cp), oord 6 INF told, oint 8 (listTo u.sh 8), oint 9 (listTo u.pa 8), .v (lineV 10 u.line), oint 12 (listTo s.sh 8), oint 13 (listTo s.pa 8), .v (lineV 14 s.line), .v (pt 6 (k * 6)), .v (pt 6 (k * 6 + 2)), .v (pt 6 (k * 6 + 0))] [encL s.line, encS sts, encOrds told, encI (listTo u.sh 8), encI (listTo u.pa 8), encL u.line, encI (listTo s.sh 8), encI (listTo s.pa 8)]) (dW2 u s sts cp told i (k + 1)) ⟨[(.len 28 (ch 3), sv 56), kt .lss 3 (sv 41) (sv 56), (.ixa 28 (ch 3) (sv 41), ch 10), (.fa 45 (ch 10) 2, ch 11), kt .eql 2 (sv 57) (sv 39), (.fa 45 (ch 10) 0, ch 12), kf .neq 43 (sv 58) (iv 6), (.bin .add 3 (sv 41) (iv 1), sv 59)], [⟨2, 11, 6, 2, sv 57⟩, ⟨43, 12, 6, 2, sv 58⟩], []⟩ [] ⟨asLen u28 rfl (by kernel_rfl), qT ((k : Int) < (told.length : Int)), asIxaM u28 z45 rfl rfl (by omega) (by omega) rfl (by simp), asFa2 rfl rfl, eT x.op s.op, asFa0 rfl rfl, nF x.kind 6, asP (u := iv ((k + 1 : Nat) : Int)) (Eq.trans (b := some (iv (IntKind.i64.wrap ((k : Int) + 1)))) (by kernel_rfl) (by rw [wrap_id (by omega) (by omega)]; rfl)) (by kernel_rfl), trivial⟩ ⟨ld_one a2 rfl (ord_c2 hget) (by kernel_rfl), ld_one a43 rfl (ord_c0 hget) (by kernel_rfl), trivial⟩ trivial trivial 10 [(0, 0), (1, 1), (2, 2), (3, 3), (5, 5), (6, 6), (7, 7), (8, 8), (9, 9), (10, 10), (11, 11), (12, 12), (13, 13), (14, 14)] (hF (by omega))
      · exact gS (ds s ([iv (i : Nat), iv (k : Nat), iv u.x, iv u.owner] ++ n8 u.ops ++ [iv u.hn, iv u.hk, .bool (u.wt != 0), iv u.op, iv (told.length : Nat), iv x.op, iv x.kind, iv ((k + 1 : Nat) : Int)]) [.v (lineV 1 s.line), olv 3 s.line, .v (stsV sts cp), oord 6 INF told, oint 8 (listTo u.sh 8), oint 9 (listTo u.pa 8), .v (lineV 10 u.line), oint 12 (listTo s.sh 8), oint 13 (listTo s.pa 8), .v (lineV 14 s.line), .v (pt 6 (k * 6)), .v (pt 6 (k * 6 + 2)), .v (pt 6 (k * 6 + 0))] [encL s.line, encS sts, encOrds told, encI (listTo u.sh 8), encI (listTo u.pa 8), encL u.line, encI (listTo s.sh 8), encI (listTo s.pa 8)]) (dW2 u s sts cp told i (k + 1)) ⟨[(.len 28 (ch 3), sv 56), kt .lss 3 (sv 41) (sv 56), (.ixa 28 (ch 3) (sv 41), ch 10), (.fa 45 (ch 10) 2, ch 11), kt .eql 2 (sv 57) (sv 39), (.fa 45 (ch 10) 0, ch 12), kt .neq 43 (sv 58) (iv 6), (.bin .add 3 (sv 41) (iv 1), sv 59)], [⟨2, 11, 6, 2, sv 57⟩, ⟨43, 12, 6, 2, sv 58⟩], []⟩ [] ⟨asLen u28 rfl (by kernel_rfl), qT ((k : Int) < (told.length : Int)), asIxaM u28 z45 rfl rfl (by omega) (by omega) rfl (by simp), asFa2 rfl rfl, eT x.op s.op, asFa0 rfl rfl, nT x.kind 6, asP (u := iv ((k + 1 : Nat) : Int)) (Eq.trans (b := some (iv (IntKind.i64.wrap ((k : Int) + 1)))) (by kernel_rfl) (by rw [wrap_id (by omega) (by omega)]; rfl)) (by kernel_rfl), trivial⟩ ⟨ld_one a2 rfl (ord_c2 hget) (by kernel_rfl), ld_one a43 rfl (ord_c0 hget) (by kernel_rfl), trivial⟩ trivial trivial 10 [(0, 0), (1, 1), (2, 2), (3, 3), (5, 5), (6, 6), (7, 7), (8, 8), (9, 9), (10, 10), (11, 11), (12, 12), (13, 13), (14, 14)] (hT (by omega) (by omega))
    · exact gS (ds s ([iv (i : Nat), iv (k : Nat), iv u.x, iv u.owner] ++ n8 u.ops ++ [iv u.hn, iv u.hk, .bool (u.wt != 0), iv u.op, iv (told.length : Nat), iv x.op, iv ((k + 1 : Nat) : Int)]) [.v (lineV 1 s.line), olv 3 s.line, .v (stsV sts cp), oord 6 INF told, oint 8 (listTo u.sh 8), oint 9 (listTo u.pa 8), .v (lineV 10 u.line), oint 12 (listTo s.sh 8), oint 13 (listTo s.pa 8), .v (lineV 14 s.line), .v (pt 6 (k * 6)), .v (pt 6 (k * 6 + 2))] [encL s.line, encS sts, encOrds told, encI (listTo u.sh 8), encI (listTo u.pa 8), encL u.line, encI (listTo s.sh 8), encI (listTo s.pa 8)]) (dW2 u s sts cp told i (k + 1)) ⟨[(.len 28 (ch 3), sv 56), kt .lss 3 (sv 41) (sv 56), (.ixa 28 (ch 3) (sv 41), ch 10), (.fa 45 (ch 10) 2, ch 11), kf .eql 2 (sv 57) (sv 39), (.bin .add 3 (sv 41) (iv 1), sv 58)], [⟨2, 11, 6, 2, sv 57⟩], []⟩ [] ⟨asLen u28 rfl (by kernel_rfl), qT ((k : Int) < (told.length : Int)), asIxaM u28 z45 rfl rfl (by omega) (by omega) rfl (by simp), asFa2 rfl rfl, eF x.op s.op, asP (u := iv ((k + 1 : Nat) : Int)) (Eq.trans (b := some (iv (IntKind.i64.wrap ((k : Int) + 1)))) (by kernel_rfl) (by rw [wrap_id (by omega) (by omega)]; rfl)) (by kernel_rfl), trivial⟩ ⟨ld_one a2 rfl (ord_c2 hget) (by kernel_rfl), trivial⟩ trivial trivial 10 [(0, 0), (1, 1), (2, 2), (3, 3), (5, 5), (6, 6), (7, 7), (8, 8), (9, 9), (10, 10), (11, 11), (12, 12), (13, 13), (14, 14)] (hF (by omega))
theorem w2_t (ht : told.length < 1000000) (hk : k < told.length) (hg : GW T sts (dW2 u s sts cp told i (k + 1)) (xW2 T true)) : GW T sts (dW2 u s sts cp told i k) (xW2 T true) := by
  · exact gS (ds s ([iv (i : Nat), iv (k : Nat), iv u.x, iv u.owner] ++ n8 u.ops ++ [iv u.hn, iv u.hk, .bool (u.wt != 0), iv u.op, iv (told.length : Nat), iv ((k + 1 : Nat) : Int)]) [.v (lineV 1 s.line), olv 3 s.line, .v (stsV sts cp), oord 6 INF told, oint 8 (listTo u.sh 8), oint 9 (listTo u.pa 8), .v (lineV 10 u.line), oint 12 (listTo s.sh 8), oint 13 (listTo s.pa 8), .v (lineV 14 s.line)] [encL s.line, encS sts, encOrds told, encI (listTo u.sh 8), encI (listTo u.pa 8), encL u.line, encI (listTo s.sh 8), encI (listTo s.pa 8)]) (dW2 u s sts cp told i (k + 1)) ⟨[(.len 28 (ch 3), sv 56), kt .lss 3 (sv 41) (sv 56), (.bin .add 3 (sv 41) (iv 1), sv 57)], [], []⟩ [] ⟨asLen u28 rfl (by kernel_rfl), qT ((k : Int) < (told.length : Int)), asP (u := iv ((k + 1 : Nat) : Int)) (Eq.trans (b := some (iv (IntKind.i64.wrap ((k : Int) + 1)))) (by kernel_rfl) (by rw [wrap_id (by omega) (by omega)]; rfl)) (by kernel_rfl), trivial⟩ trivial trivial trivial 10 [(0, 0), (1, 1), (2, 2), (3, 3), (5, 5), (6, 6), (7, 7), (8, 8), (9, 9), (10, 10), (11, 11), (12, 12), (13, 13), (14, 14)] hg
theorem w2_e (hg : GW T sts (dW3 u s sts cp told i 0 true) (xW3 T)) : GW T sts (dW2 u s sts cp told i told.length) (xW2 T true) := by
  · exact gS (ds s ([iv (i : Nat), iv (told.length : Nat), iv u.x, iv u.owner] ++ n8 u.ops ++ [iv u.hn, iv u.hk, .bool (u.wt != 0), iv u.op]) [.v (lineV 1 s.line), olv 3 s.line, .v (stsV sts cp), oord 6 INF told, oint 8 (listTo u.sh 8), oint 9 (listTo u.pa 8), .v (lineV 10 u.line), oint 12 (listTo s.sh 8), oint 13 (listTo s.pa 8), .v (lineV 14 s.line)] [encL s.line, encS sts, encOrds told, encI (listTo u.sh 8), encI (listTo u.pa 8), encL u.line, encI (listTo s.sh 8), encI (listTo s.pa 8)]) (dW3 u s sts cp told i 0 true) ⟨[(.len 28 (ch 3), sv 41), kf .lss 3 (sv 41) (sv 41)], [], []⟩ [] ⟨asLen u28 rfl (by kernel_rfl), qF ((told.length : Int) < (told.length : Int)), trivial⟩ trivial trivial trivial 15 [(0, 0), (1, 1), (2, 2), (3, 3), (5, 5), (6, 6), (7, 7), (8, 8), (9, 9), (10, 10), (11, 11), (12, 12), (13, 13), (14, 14)] hg
theorem w3_hit (hi : i < 1000) (hl0 : u.line.length < 100000) (hl : s.line.length < 100000) (hk : k ≤ u.line.length) (hbg : bgM s.line (u.line.drop k) = true) (hle : s.line.length + k ≤ u.line.length + 1) (hg : GW T sts (dW1 s sts cp told (i + 1)) (xW1 T)) : GW T sts (dW3 u s sts cp told i k bz) (xW3 T) := by
  · exact gS (ds s ([iv (i : Nat), iv (k : Nat), iv u.x, iv u.owner] ++ n8 u.ops ++ [iv u.hn, iv u.hk, .bool (u.wt != 0), iv u.op, .bool bz, iv (u.line.length : Nat), iv (s.line.length : Nat), iv ((u.line.length : Int) - (k : Int)), iv ((((u.line.length : Int) - (k : Int))) + (1)), iv ((i + 1 : Nat) : Int)]) [.v (lineV 1 s.line), olv 3 s.line, .v (stsV sts cp), oord 6 INF told, oint 8 (listTo u.sh 8), oint 9 (listTo u.pa 8), .v (lineV 10 u.line), oint 12 (listTo s.sh 8), oint 13 (listTo s.pa 8), .v (lineV 14 s.line), .v (tailV 10 u.line k)] [encL s.line, encS sts, encOrds told, encI (listTo u.sh 8), encI (listTo u.pa 8), encL u.line, encI (listTo s.sh 8), encI (listTo s.pa 8)]) (dW1 s sts cp told (i + 1)) ⟨[(.len 31 (ch 6), sv 57), kt .leq 3 (sv 41) (sv 57), (.sli 31 (ch 6) (some (sv 41)) none none, ch 10), kf .gtr 3 (sv 41) (sv 57), (.len 31 (ch 9), sv 58), (.bin .sub 3 (sv 57) (sv 41), sv 59), (.bin .add 3 (sv 59) (iv 1), sv 60), kf .gtr 3 (sv 58) (sv 60), (.bin .add 3 (sv 40) (iv 1), sv 61)], [], []⟩ [(17, [eBg 9 10 15 true])] ⟨asLen u31 rfl (by kernel_rfl), qT ((k : Int) ≤ (u.line.length : Int)), asSliK rfl rfl rfl hk (by omega), qF ((k : Int) > (u.line.length : Int)), asLen u31 rfl (by kernel_rfl), asP (u := iv ((u.line.length : Int) - (k : Int))) (Eq.trans (b := some (iv (IntKind.i64.wrap ((u.line.length : Int) - (k : Int))))) (by kernel_rfl) (by rw [wrap_id (by omega) (by omega)])) (by kernel_rfl), asP (u := iv ((((u.line.length : Int) - (k : Int))) + (1))) (Eq.trans (b := some (iv (IntKind.i64.wrap ((((u.line.length : Int) - (k : Int))) + (1))))) (by kernel_rfl) (by rw [wrap_id (by omega) (by omega)])) (by kernel_rfl), qF ((s.line.length : Int) > ((u.line.length : Int) - (k : Int)) + 1), asP (u := iv ((i + 1 : Nat) : Int)) (Eq.trans (b := some (iv (IntKind.i64.wrap ((i : Int) + 1)))) (by kernel_rfl) (by rw [wrap_id (by omega) (by omega)]; rfl)) (by kernel_rfl), trivial⟩ trivial trivial ⟨oe (begins_b (by omega) (by omega) hbg), trivial⟩ 13 [(0, 0), (1, 1), (2, 2), (3, 3), (5, 5), (6, 6)] hg
theorem w3_miss (hl0 : u.line.length < 100000) (hl : s.line.length < 100000) (hk : k ≤ u.line.length) (hbg : bgM s.line (u.line.drop k) = false) (hg : GW T sts (dW3 u s sts cp told i (k + 1) bz) (xW3 T)) : GW T sts (dW3 u s sts cp told i k bz) (xW3 T) := by
  · exact gS (ds s ([iv (i : Nat), iv (k : Nat), iv u.x, iv u.owner] ++ n8 u.ops ++ [iv u.hn, iv u.hk, .bool (u.wt != 0), iv u.op, .bool bz, iv (u.line.length : Nat), iv ((k + 1 : Nat) : Int)]) [.v (lineV 1 s.line), olv 3 s.line, .v (stsV sts cp), oord 6 INF told, oint 8 (listTo u.sh 8), oint 9 (listTo u.pa 8), .v (lineV 10 u.line), oint 12 (listTo s.sh 8), oint 13 (listTo s.pa 8), .v (lineV 14 s.line), .v (tailV 10 u.line k)] [encL s.line, encS sts, encOrds told, encI (listTo u.sh 8), encI (listTo u.pa 8), encL u.line, encI (listTo s.sh 8), encI (listTo s.pa 8)]) (dW3 u s sts cp told i (k + 1) bz) ⟨[(.len 31 (ch 6), sv 57), kt .leq 3 (sv 41) (sv 57), (.sli 31 (ch 6) (some (sv 41)) none none, ch 10), (.bin .add 3 (sv 41) (iv 1), sv 58)], [], []⟩ [(17, [eBg 9 10 15 false])] ⟨asLen u31 rfl (by kernel_rfl), qT ((k : Int) ≤ (u.line.length : Int)), asSliK rfl rfl rfl hk (by omega), asP (u := iv ((k + 1 : Nat) : Int)) (Eq.trans (b := some (iv (IntKind.i64.wrap ((k : Int) + 1)))) (by kernel_rfl) (by rw [wrap_id (by omega) (by omega)]; rfl)) (by kernel_rfl), trivial⟩ trivial trivial ⟨oe (begins_b (by omega) (by omega) hbg), trivial⟩ 8 [(0, 0), (1, 1), (2, 2), (3, 3), (5, 5), (6, 6), (7, 7), (8, 8), (9, 9), (10, 10), (11, 11), (12, 12), (13, 13), (14, 14)] hg
theorem w2_ts (ht : told.length < 1000000) (hg : GW T sts (dW3 u s sts cp told i 0 true) (xW3 T)) : ∀ (j k : Nat), k + j = told.length → GW T sts (dW2 u s sts cp told i k) (xW2 T true)
  | 0, k, h => by
    have : k = told.length := by omega
    subst this; exact w2_e hg
  | j + 1, k, h => w2_t ht (by omega) (w2_ts ht hg j (k + 1) (by omega))
theorem w2_fs (ht : told.length < 1000000) (hg : GW T sts (dW3 u s sts cp told i 0 true) (xW3 T)) : ∀ (j k : Nat), k + j = told.length → (∃ x ∈ told.drop k, x.op = s.op ∧ x.kind ≠ 6) → GW T sts (dW2 u s sts cp told i k) (xW2 T false)
  | 0, k, h, hx => by
    rw [List.drop_eq_nil_of_le (by omega)] at hx
    obtain ⟨x, hx, _⟩ := hx
    cases hx
  | j + 1, k, h, hx => by
    have hk : k < told.length := by omega
    refine w2_f ht (x := told[k]) (by simp [hk]) (fun _ _ => w2_ts ht hg j (k + 1) (by omega)) fun hn => w2_fs ht hg j (k + 1) (by omega) ?_
    obtain ⟨x, hx, h1⟩ := hx
    rw [List.drop_eq_getElem_cons hk] at hx
    rcases List.mem_cons.1 hx with rfl | hx
    · exact absurd h1 hn
    · exact ⟨x, hx, h1⟩
def LineOk (w b : List (Int × Int)) : Prop := ∃ j, j ≤ w.length ∧ (∀ k, k < j → bgM b (w.drop k) = false) ∧ bgM b (w.drop j) = true ∧ b.length + j ≤ w.length + 1
theorem w3_all (hi : i < 1000) (hl0 : u.line.length < 100000) (hl : s.line.length < 100000) {j : Nat} (hj : j ≤ u.line.length) (hno : ∀ k, k < j → bgM s.line (u.line.drop k) = false) (hyes : bgM s.line (u.line.drop j) = true) (hle : s.line.length + j ≤ u.line.length + 1) (hg : GW T sts (dW1 s sts cp told (i + 1)) (xW1 T)) : ∀ (m k : Nat), k + m = j → GW T sts (dW3 u s sts cp told i k bz) (xW3 T)
  | 0, k, h => by
    have : k = j := by omega
    subst this; exact w3_hit hi hl0 hl hj hyes hle hg
  | m + 1, k, h => w3_miss hl0 hl (by omega) (hno k (by omega)) (w3_all hi hl0 hl hj hno hyes hle hg m (k + 1) (by omega))
theorem waits_step {c1 c2 : Nat} (hi : i < sts.length) (hi2 : i < 1000) (hl0 : s.line.length < 100000) (hl : t.line.length < 100000) (ht : (told ++ o).length < 1000000) (hD : Ctr Try.prog 16 [.pointer (some ⟨0, 0, none⟩), .pointer (some ⟨2, 0, none⟩), stepV (stAt sts i).k (stAt sts i).n (stAt sts i).m (stAt sts i).op (stAt sts i).psn] (twoA s) (.tuple #[ordR 6 c1 o, ordR 7 c2 o]) (twoE t o)) (hw : t.wt ≠ 0 → ∃ x ∈ told ++ o, x.op = t.op ∧ x.kind ≠ 6) (hL : LineOk s.line t.line) (hg : GW T sts (dW1 t sts cp (told ++ o) (i + 1)) (xW1 T)) : GW T sts (dW1 s sts cp told i) (xW1 T) := by
  obtain ⟨j, h1, h2, h3, h4⟩ := hL
  have g3 := fun bz => w3_all (u := s) (bz := bz) hi2 hl0 hl h1 h2 h3 h4 hg j 0 (Nat.zero_add _)
  by_cases hb : t.wt = 0
  · have hbusy : (t.wt != 0) = false := by simp [hb]
    cases o with
    | nil =>
      rw [List.append_nil] at g3 ht
      exact waits_idle_nil hi hl0 hl ht hbusy hD (g3 false)
    | cons x l => exact waits_idle_cons hi hl0 hl ht hbusy hD (g3 false)
  · have hbusy : (t.wt != 0) = true := by simp [hb]
    have g2 := w2_fs ht (g3 true) (told ++ o).length 0 (Nat.zero_add _) (by rw [List.drop_zero]; exact hw hb)
    cases o with
    | nil =>
      rw [List.append_nil] at g2 ht
      exact waits_busy_nil hi hl0 hl ht hbusy hD g2
    | cons x l => exact waits_busy_cons hi hl0 hl ht hbusy hD g2
theorem waits_all {J : St → List Ord → Prop} (hJ : ∀ (s : St) (told : List Ord) (k n m op psn : Int), J s told → s.op + s.line.length ≤ 900 → J (doM s k n m op psn).1 (told ++ (doM s k n m op psn).2) ∧ ((doM s k n m op psn).1.wt ≠ 0 → ∃ x ∈ told ++ (doM s k n m op psn).2, x.op = (doM s k n m op psn).1.op ∧ x.kind ≠ 6) ∧ LineOk s.line (doM s k n m op psn).1.line) (hP : ∀ s told, J s told → P2 s) (hs : sts.length ≤ 200) : ∀ (j i : Nat) (s : St) (told : List Ord), i + j = sts.length → J s told → s.op + s.line.length ≤ i → told.length ≤ i * 1000 → GW T sts (dW1 s sts cp told i) (xW1 T)
  | 0, i, s, told, h, _, _, _ => by
    have : i = sts.length := by omega
    subst this; exact waits_end
  | j + 1, i, s, told, h, hp, hb, ht => by
    have hi : i < sts.length := by omega
    have hP1 := hP s told hp
    obtain ⟨hd, hp', hr⟩ := do_ctr hP1 (by omega) (stAt sts i).k (stAt sts i).n (stAt sts i).m (stAt sts i).op (stAt sts i).psn
    obtain ⟨hj, hw, hL⟩ := hJ s told (stAt sts i).k (stAt sts i).n (stAt sts i).m (stAt sts i).op (stAt sts i).psn hp (by omega)
    obtain ⟨c1, c2, _, _, hD⟩ := hd.get
    have h1 := hr.tot
    have h2 := hr.len
    have h3 := hP1.post.inv.op
    have h4 := hp'.post.inv.op
    have h5 : (told ++ (doM s (stAt sts i).k (stAt sts i).n (stAt sts i).m (stAt sts i).op (stAt sts i).psn).2).length ≤ (i + 1) * 1000 := by rw [List.length_append]; omega
    exact waits_step hi (by omega) (by omega) (by omega) (by omega) hD hw hL (waits_all hJ hP hs j (i + 1) _ _ (by omega) hj (by omega) h5)
theorem waits_ctr {J : St → List Ord → Prop} (hJ : ∀ (s : St) (told : List Ord) (k n m op psn : Int), J s told → s.op + s.line.length ≤ 900 → J (doM s k n m op psn).1 (told ++ (doM s k n m op psn).2) ∧ ((doM s k n m op psn).1.wt ≠ 0 → ∃ x ∈ told ++ (doM s k n m op psn).2, x.op = (doM s k n m op psn).1.op ∧ x.kind ≠ 6) ∧ LineOk s.line (doM s k n m op psn).1.line) (hP : ∀ s told, J s told → P2 s) (h0 : J newS []) (T : TypeId) (sts : List Stp) (cp : Nat) : Ctr Try.prog 3 [.slice (some ⟨5, 0, none⟩) sts.length cp] [(5, .row T (.lst (encS sts)) true)] (.bool true) [] := by
  have hgo : sts.length ≤ 200 → GoodS (dW1 newS sts cp [] 0) Try.prog 3 [(5, .row T (.lst (encS sts)) true)] (.bool true) [] [] (headC kW1 .normal fW0 107 7 (hP1 T)) := fun hs =>
    goodS_ghost (c' := 7) 6 2 45 false rfl rfl (@goodS_seg (dW1 newS sts cp [] 0) (dW1 newS sts cp [] 0) Try.prog mixed ⟨[], [], []⟩ [] trivial trivial trivial trivial 100 0 3 _ _ _ _ _ [(0, 0), (1, 1), (2, 2), (3, 3), (5, 5), (6, 6)] [] _ _ _ _ _ _ (by kernel_rfl) (by kernel_rfl) (by kernel_rfl) (waits_all (T := T) (cp := cp) hJ hP hs sts.length 0 newS [] (Nat.zero_add _) h0 (by decide) (by decide)))
  · by_cases h0 : (((sts.length : Nat)) : Int) > (200)
    · exact Ctr.of_goodS (d := (ds newS [iv (sts.length : Nat)] [.v (lineV 1 []), olv 3 [], .v (stsV sts cp)] [encL [], encS sts])) [] (c0 := 6) (A0 := hP0 T) (args0 := [ch 2]) (by kernel_rfl) (by kernel_rfl) (by kernel_rfl) (@goodS_fin (ds newS [iv (sts.length : Nat)] [.v (lineV 1 []), olv 3 [], .v (stsV sts cp)] [encL [], encS sts]) Try.prog mixed ⟨[(.len 22 (ch 2), sv 40), kt .gtr 3 (sv 40) (iv 200)], [], []⟩ [(12, [eKn 6])] ⟨asLen u22 rfl (by kernel_rfl), qT ((((sts.length : Nat)) : Int) > 200), trivial⟩ trivial trivial ⟨oe known_ctr, trivial⟩ 100 7 3 _ _ _ _ _ [] [] (by kernel_rfl) (by kernel_rfl))
    · refine Ctr.of_goodS (d := (ds newS [iv (sts.length : Nat)] [.v (lineV 1 []), olv 3 [], .v (stsV sts cp)] [encL [], encS sts])) [] (c0 := 6) (A0 := hP0 T) (args0 := [ch 2]) (by kernel_rfl) (by kernel_rfl) (by kernel_rfl) ?_
      exact @goodS_seg (ds newS [iv (sts.length : Nat)] [.v (lineV 1 []), olv 3 [], .v (stsV sts cp)] [encL [], encS sts]) (dW1 newS sts cp [] 0) Try.prog mixed ⟨[(.len 22 (ch 2), sv 40), kf .gtr 3 (sv 40) (iv 200)], [], []⟩ [(13, [eNewP 6]), (14, [eNewR 8])] ⟨asLen u22 rfl (by kernel_rfl), qF ((((sts.length : Nat)) : Int) > 200), trivial⟩ trivial trivial ⟨oe new_ctr, oe newR_ctr, trivial⟩ 100 17 3 _ _ _ _ _ [(6, 0), (7, 1), (8, 2), (9, 3), (5, 5)] [] kW1 .normal fW0 107 7 (hP1 T) (by kernel_rfl) (by kernel_rfl) (by kernel_rfl) (hgo (by omega))
end
theorem waits_nil : Ctr Try.prog 3 [.slice none 0 0] [] (.bool true) [] :=
  Ctr.path mixed (dr newS [] [] []) ⟨[], [], []⟩ [(12, [eKn 3])] trivial trivial trivial ⟨oe known_ctr, trivial⟩
    (N := 400) (c0 := 0) (A0 := []) (args0 := [.slice none 0 0]) (τ := []) (ros := []) (by kernel_rfl) (by kernel_rfl) (by kernel_rfl)
theorem waits_zero : Ctr Try.prog 3 [.slice (some ⟨5, 0, none⟩) 0 0] [(5, .dead)] (.bool true) [(5, .dead)] :=
  Ctr.path mixed (dr newS [] [] []) ⟨[], [], []⟩ [(12, [eKn 9])] trivial trivial trivial ⟨oe known_ctr, trivial⟩
    (N := 400) (c0 := 6) (A0 := [(5, .dead)]) (args0 := [.slice (some ⟨5, 0, none⟩) 0 0]) (τ := [(5, 5)]) (ros := []) (by kernel_rfl) (by kernel_rfl) (by kernel_rfl)
end Go.Proofs.Ytjpgnjaobfbojaa
namespace Go.Proofs.Ytjpgnjaobfbojaa
open Go.Sx
structure WR (s : St) (r : St × List Ord) : Prop where
  line : ∃ j, j ≤ s.line.length ∧ r.1.line = s.line.drop j
  told : r.1.wt ≠ 0 → ∃ x ∈ r.2, x.op = r.1.op ∧ x.kind ≠ 6
theorem WR.of {s u : St} {r : St × List Ord} (h : WR u r) (h1 : u.line = s.line) : WR s r := ⟨by rw [← h1]; exact h.line, h.told⟩
section
variable {s : St} {nx : St → St × List Ord}
theorem beginS_WR (hn : WR (reset s) (nx (reset s))) : WR s (beginS nx s) := by
  unfold beginS
  split
  · exact hn.of rfl
  · split
    · exact hn.of rfl
    · refine ⟨⟨0, Nat.zero_le _, rfl⟩, fun _ => ⟨_, List.mem_singleton.2 rfl, ?_, ?_⟩⟩
      · split <;> rfl
      · split
        · exact fun h => by cases h
        · exact fun h => by cases h
theorem beginE_WR (hn : WR (reset s) (nx (reset s))) : WR s (beginE nx s) := by
  unfold beginE
  split
  · exact hn.of rfl
  · dsimp only
    split
    · refine ⟨⟨0, Nat.zero_le _, rfl⟩, fun _ => ⟨_, List.mem_singleton.2 rfl, ?_, ?_⟩⟩
      · split <;> rfl
      · split
        · exact fun h => by cases h
        · exact fun h => by cases h
    · rename_i hl
      refine ⟨⟨0, Nat.zero_le _, rfl⟩, fun _ => ?_⟩
      cases he : listTo (goneM { s with su := supplyP s }) 8 with
      | nil => exact absurd he hl
      | cons a l => exact ⟨⟨4, a, s.op, 0, 0, 0⟩, List.mem_cons_self, rfl, fun h => by cases h⟩
theorem needM_WR (hn : ∀ pa, WR (reset { s with pa := pa }) (nx (reset { s with pa := pa }))) : WR s (needM nx s) := by
  have h := hn (upd s.pa s.hn.toNat false)
  refine ⟨h.line, fun hw => ?_⟩
  obtain ⟨x, hx, h1⟩ := h.told hw
  exact ⟨x, List.mem_cons_of_mem _ hx, h1⟩
theorem beginM_WR (hn : ∀ pa, WR (reset { s with pa := pa }) (nx (reset { s with pa := pa }))) : WR s (beginM nx s) := by
  unfold beginM
  split
  · exact beginS_WR (hn s.pa)
  · split
    · exact beginE_WR (hn s.pa)
    · unfold beginC
      split
      · exact (needM_WR (s := { s with pa := upd s.pa s.hn.toNat true }) hn).of rfl
      · exact ⟨⟨0, Nat.zero_le _, rfl⟩, fun _ => ⟨_, List.mem_singleton.2 rfl, rfl, fun h => by cases h⟩⟩
end
theorem next_WR : ∀ (n : Nat) (s : St), s.wt = 0 → WR s (nextM n s)
  | 0, s, hw => ⟨⟨0, Nat.zero_le _, rfl⟩, fun h => absurd hw h⟩
  | n + 1, s, hw => by
    unfold nextM
    split
    · exact ⟨⟨0, Nat.zero_le _, rfl⟩, fun h => absurd hw h⟩
    · rename_i w rest hs
      have h := beginM_WR (nx := nextM n) (s := { s with hn := w.1, hk := w.2, line := rest, op := s.op + 1 }) fun pa => next_WR n _ rfl
      obtain ⟨j, h1, h2⟩ := h.line
      refine ⟨⟨j + 1, ?_, ?_⟩, h.told⟩
      · rw [hs]; simp only [List.length_cons]; exact Nat.succ_le_succ h1
      · rw [hs]; exact h2
structure WS (s : St) (r : St × List Ord) : Prop where
  line : (∃ j, j ≤ s.line.length ∧ r.1.line = s.line.drop j) ∨ ∃ a, r.1.line = s.line ++ [a]
  told : r.1.wt ≠ 0 → (∃ x ∈ r.2, x.op = r.1.op ∧ x.kind ≠ 6) ∨ (r.1.op = s.op ∧ s.wt ≠ 0)
theorem WR.toWS {s : St} {r : St × List Ord} (h : WR s r) : WS s r := ⟨.inl h.line, fun hw => .inl (h.told hw)⟩
theorem WS.keep (s : St) : WS s (s, []) := ⟨.inl ⟨0, Nat.zero_le _, rfl⟩, fun h => .inr ⟨rfl, h⟩⟩
theorem WS.same {s t : St} (o : List Ord) (h1 : t.line = s.line) (h2 : t.op = s.op) (h3 : t.wt = s.wt) : WS s (t, o) := ⟨.inl ⟨0, Nat.zero_le _, h1⟩, fun h => .inr ⟨h2, by rw [← h3]; exact h⟩⟩
section
variable {s : St} {n k m op psn : Int}
theorem wish_WS (hp : P2 s) : WS s (wishM s n k) := by
  unfold wishM
  split
  · rename_i hw
    have ⟨hl, _⟩ := hp.post.idle hw
    have h := next_WR FU { s with line := [(n, k)] } hw
    refine ⟨?_, fun h1 => .inl (h.told h1)⟩
    obtain ⟨j, h1, h2⟩ := h.line
    rw [hl]
    rw [h2]
    match j, h1 with
    | 0, _ => exact .inr ⟨(n, k), rfl⟩
    | 1, _ => exact .inl ⟨0, Nat.zero_le _, rfl⟩
    | j + 2, h1 => exact absurd h1 (by show ¬ j + 2 ≤ 1; omega)
  · split
    · exact WS.keep s
    · split
      · exact WS.keep s
      · rename_i hw _ _
        exact ⟨.inr ⟨(n, k), rfl⟩, fun _ => .inr ⟨rfl, hw⟩⟩
theorem left_WS (_hw : s.wt = 1) : WS s (leftM s n) := by
  unfold leftM
  split
  · exact (WR.of (s := s) (beginE_WR (nx := nextM FU) (s := leftS s n) (next_WR FU _ rfl)) rfl).toWS
  · exact WS.same [] rfl rfl rfl
theorem gotS_line (s : St) (n op : Int) : (gotS s n op).line = s.line := by
  unfold gotS
  repeat' split
  all_goals rfl
theorem got_WS : WS s (gotM s n op) := by
  unfold gotM
  split
  · exact (WR.of (s := s) (next_WR FU (reset (gotS s n op)) rfl) (gotS_line s n op)).toWS
  · exact WS.keep s
theorem rel_WS : WS s (relM s n op) := by
  unfold relM
  split
  · split
    · rename_i h1
      have h := left_WS (s := relS s n) (n := n) h1.1
      exact ⟨h.line, h.told⟩
    · split
      · split
        · exact (WR.of (s := s) (beginS_WR (nx := nextM FU) (s := { relS s n with op := s.op + 1 }) (next_WR FU _ rfl)) rfl).toWS
        · exact (WR.of (s := s) (beginE_WR (nx := nextM FU) (s := { relS s n with op := s.op + 1 }) (next_WR FU _ rfl)) rfl).toWS
      · split
        · exact (WR.of (s := s) (needM_WR (nx := nextM FU) (s := relS s n) fun pa => next_WR FU _ rfl) rfl).toWS
        · exact WS.same [] rfl rfl rfl
  · exact WS.keep s
theorem wroteT_same (s : St) (n op : Int) : (wroteT s n op).line = s.line ∧ (wroteT s n op).op = s.op ∧ (wroteT s n op).wt = s.wt := by
  unfold wroteT
  repeat' split
  all_goals exact ⟨rfl, rfl, rfl⟩
theorem wrote_WS : WS s (wroteM s n op psn) := by
  unfold wroteM
  split
  · split
    · have h := next_WR FU (reset (wroteS s n)) rfl
      refine ⟨.inl h.line, fun hw => .inl ?_⟩
      obtain ⟨x, hx, h1⟩ := h.told hw
      exact ⟨x, List.mem_append_right _ hx, h1⟩
    · have ⟨h1, h2, h3⟩ := wroteT_same s n op
      exact WS.same _ h1 h2 h3
  · exact WS.keep s
theorem do_WS (hp : P2 s) : WS s (doM s k n m op psn) := by
  unfold doM
  split
  · unfold wantM
    split
    · exact wish_WS hp
    · exact WS.keep s
  split
  · unfold cleanM
    split
    · exact wish_WS hp
    · exact WS.keep s
  split
  · unfold goneMM
    split
    · rename_i h; exact left_WS h.2.1
    · exact WS.keep s
  split
  · exact got_WS
  split
  · exact rel_WS
  split
  · exact wrote_WS
  · exact WS.keep s
end
theorem lineOk_of {w b : List (Int × Int)} (h : (∃ j, j ≤ w.length ∧ b = w.drop j) ∨ ∃ a, b = w ++ [a]) : LineOk w b := by
  rcases h with ⟨j, h1, rfl⟩ | ⟨a, rfl⟩
  · refine ⟨j, h1, fun k hk => bgM_long _ _ (by rw [List.length_drop, List.length_drop]; omega), ?_, by rw [List.length_drop]; omega⟩
    have := bgM_self (w.drop j) []
    rwa [List.append_nil] at this
  · exact ⟨0, Nat.zero_le _, fun k hk => absurd hk (Nat.not_lt_zero k), bgM_self w [a], by simp⟩
structure JW (s : St) (told : List Ord) : Prop where
  p2 : P2 s
  told : s.wt ≠ 0 → ∃ x ∈ told, x.op = s.op ∧ x.kind ≠ 6
theorem waits_plain (s : St) (told : List Ord) (k n m op psn : Int) (h : JW s told) (hb : s.op + s.line.length ≤ 900) : JW (doM s k n m op psn).1 (told ++ (doM s k n m op psn).2) ∧ ((doM s k n m op psn).1.wt ≠ 0 → ∃ x ∈ told ++ (doM s k n m op psn).2, x.op = (doM s k n m op psn).1.op ∧ x.kind ≠ 6) ∧ LineOk s.line (doM s k n m op psn).1.line := by
  have w := do_WS (k := k) (n := n) (m := m) (op := op) (psn := psn) h.p2
  obtain ⟨_, hp, _⟩ := do_ctr h.p2 hb k n m op psn
  have ht : (doM s k n m op psn).1.wt ≠ 0 → ∃ x ∈ told ++ (doM s k n m op psn).2, x.op = (doM s k n m op psn).1.op ∧ x.kind ≠ 6 := fun hw => by
    rcases w.told hw with ⟨x, hx, h1⟩ | ⟨h1, h2⟩
    · exact ⟨x, List.mem_append_right _ hx, h1⟩
    · obtain ⟨x, hx, h3⟩ := h.told h2
      exact ⟨x, List.mem_append_left _ hx, by rw [h1]; exact h3⟩
  exact ⟨⟨hp, ht⟩, ht, lineOk_of w.line⟩
theorem newS_JW : JW newS [] := ⟨newS_P2, fun h => absurd rfl h⟩
theorem waits_all_ctr (T : TypeId) (sts : List Stp) (cp : Nat) : Ctr Try.prog 3 [.slice (some ⟨5, 0, none⟩) sts.length cp] [(5, .row T (.lst (encS sts)) true)] (.bool true) [] := waits_ctr waits_plain (fun _ _ h => h.p2) newS_JW T sts cp
end Go.Proofs.Ytjpgnjaobfbojaa

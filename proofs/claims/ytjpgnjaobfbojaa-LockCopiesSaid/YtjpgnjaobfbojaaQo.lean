import Derived.Test.YtjpgnjaobfbojaaQn
namespace Go.Proofs.Ytjpgnjaobfbojaa
open Go.Sx
set_option maxRecDepth 20000
theorem three_entry {d : Den} {g : FuncId} {e f x : Entry} (h : @EntryOK d Try.prog g e) (h2 : @EntryOK d Try.prog g f) (h3 : @EntryOK d Try.prog g x) : ∀ y ∈ [e, f, x], @EntryOK d Try.prog g y := fun y hy => by
  rcases List.mem_cons.1 hy with rfl | hy
  · exact h
  · exact two_entry h2 h3 y hy
def hC0 (T1 T2 : TypeId) : HL := [(5, .orow T1 1 true), (6, .orow T2 2 true)]
def hC1 (T1 T2 : TypeId) : HL := [(0, .row 73 (.lst (syms [])) false), (1, .orow 34 0 false), (2, .row 52 (.lst (syms [(26, .chan (some 1))])) false), (3, .mrow 34 0 false), (5, .orow T1 1 true), (6, .orow T2 2 true)]
def fC1 : FV := [(0, .chan (some 2)), (1, .chan (some 3)), (5, .pointer (some ⟨0, 0, none⟩)), (6, .pointer (some ⟨2, 0, none⟩)), (7, sv 40)]
def hC2 (T2 : TypeId) : HL := [(0, .row 73 (.lst (symsT 41 0)) false), (1, .orow 34 2 false), (2, .row 52 (.lst (symsT 41 4)) false), (3, .mrow 34 2 false), (6, .orow T2 1 true), (7, .row 73 (.lst (syms [(26, .chan (some 3))])) false), (8, .orow 34 0 false), (9, .row 52 (.lst (syms [(26, .chan (some 1))])) false), (10, .mrow 34 0 false)]
def fC2 : FV := [(1, .chan (some 2)), (5, .pointer (some ⟨0, 0, none⟩)), (6, .pointer (some ⟨2, 0, none⟩)), (8, .pointer (some ⟨7, 0, none⟩)), (9, .pointer (some ⟨9, 0, none⟩)), (10, sv 40)]
def kout : List KI → List KI
  | .blk _ :: k => k
  | _ :: k => kout k
  | [] => []
noncomputable def kC1 : List KI := kskip 15 [.code (codeOf Try.prog 8)]
noncomputable def kC2 : List KI := kskip 15 (kout kC1)
noncomputable def xC1 (T1 T2 : TypeId) : Cfg := headC kC1 .normal fC1 115 7 (hC1 T1 T2)
noncomputable def xC2 (T2 : TypeId) : Cfg := headC kC2 .normal fC2 115 11 (hC2 T2)
abbrev ost (id : Nat) (l : List Stp) : OV := .m id l.length INF
def oS (id : Nat) (l : List Stp) (c : Nat) : Bool → OV
  | true => .v (.slice (some ⟨id, 0, none⟩) l.length c)
  | false => ost id l
theorem okC1 (l : List (Int × Int)) (b1 b2 : Bool) (sts mos : List Stp) (cp cq : Nat) : [.v (lineV 1 l), olv 3 l, oS 5 sts cp b1, oS 6 mos cq b2].all OV.ok = true := by cases b1 <;> cases b2 <;> rfl
theorem okC2 (l m : List (Int × Int)) (b2 : Bool) (mos : List Stp) (cq : Nat) : [.v (lineV 1 m), olv 10 l, oS 6 mos cq b2, .v (lineV 8 l), olv 3 m].all OV.ok = true := by cases b2 <;> rfl
noncomputable abbrev dC1 (s : St) (b1 b2 : Bool) (sts mos : List Stp) (cp cq i : Nat) : Den := denR s [.int .i64 (i : Nat)] rfl [.v (lineV 1 s.line), olv 3 s.line, oS 5 sts cp b1, oS 6 mos cq b2] (okC1 _ _ _ _ _ _ _) [encL s.line, encS sts, encS mos] (rowsK (by repeat first | exact PL.nil | refine PL.cons ?_ ?_ | exact encL_plain _ | exact encOrds_plain _ | exact encI_plain _ | exact encS_plain _))
noncomputable abbrev dC2 (u s : St) (b2 : Bool) (mos : List Stp) (cq i : Nat) : Den := denR s ([.int .i64 (i : Nat)] ++ v40 u) rfl [.v (lineV 1 u.line), olv 10 s.line, oS 6 mos cq b2, .v (lineV 8 s.line), olv 3 u.line] (okC2 _ _ _ _ _) [encL s.line, encS mos, encL u.line] (rowsK (by repeat first | exact PL.nil | refine PL.cons ?_ ?_ | exact encL_plain _ | exact encOrds_plain _ | exact encI_plain _ | exact encS_plain _))
def eCy (c k : Nat) : Entry := { args := [.pointer (some ⟨0, 0, none⟩)], c := c, foots := [⟨0, 0, false, .row 73 (.lst (syms [])) false, .row 73 (.lst (syms [])) false⟩, ⟨1, 1, false, .orow 34 0 false, .orow 34 0 false⟩], news := [(2, .row 73 (.lst (syms [(26, .chan (some k))])) false), (3, .orow 34 0 false)], res := .pointer (some ⟨c, 0, none⟩) }
def eSa (args : List Value) (c a la b lb : Nat) (ra oa rb ob : AObj) (v : Bool) : Entry := { args := args, c := c, foots := [⟨a, 0, true, ra, ra⟩, ⟨la, 1, true, oa, oa⟩, ⟨b, 2, true, rb, rb⟩, ⟨lb, 3, true, ob, ob⟩], news := [], res := .bool v }
def eSBv (x y : Value) (c : Nat) (l : List (Nat × AObj)) (v : Bool) : Entry := { args := [x, y], c := c, foots := ftR 2 l, news := [], res := .bool v }
def eCpQ (c k : Nat) : Entry := { args := [.slice none 0 0, .chan (some 1)], c := c, foots := [⟨3, 1, true, .mrow 34 0 false, .mrow 34 0 false⟩], news := [(2, .mrow 34 0 false)], res := .chan (some k) }
def GC (T1 T2 : TypeId) (sts mos : List Stp) (d : Den) (x : Cfg) : Prop := GoodS d Try.prog 8 [(5, .row T1 (.lst (encS sts)) true), (6, .row T2 (.lst (encS mos)) true)] (.bool true) [] [] x
section
variable {s t u : St} {sts mos : List Stp} {cp cq i : Nat} {o : List Ord} {T1 T2 : TypeId}
theorem copies_step1s {c1 c2 : Nat} (hi : i < sts.length) (hs : sts.length ≤ 100) (_hl0 : s.line.length < 100000) (_hl : t.line.length < 100000) (hD : Ctr Try.prog 16 [.pointer (some ⟨0, 0, none⟩), .pointer (some ⟨2, 0, none⟩), stepV (stAt sts i).k (stAt sts i).n (stAt sts i).m (stAt sts i).op (stAt sts i).psn] (twoA s) (.tuple #[ordR 6 c1 o, ordR 7 c2 o]) (twoE t o)) (hg : GC T1 T2 sts mos (dC1 t true true sts mos cp cq (i + 1)) (xC1 T1 T2)) : GC T1 T2 sts mos (dC1 s true true sts mos cp cq i) (xC1 T1 T2) := by
  · exact gS (ds s ([iv (i : Nat), iv (sts.length : Nat), iv (stAt sts i).k, iv (stAt sts i).n, iv (stAt sts i).m, iv (stAt sts i).op, iv (stAt sts i).psn] ++ v40 t ++ [iv ((i + 1 : Nat) : Int)]) [.v (lineV 1 s.line), olv 3 s.line, .v (.slice (some ⟨5, 0, none⟩) sts.length cp), .v (.slice (some ⟨6, 0, none⟩) mos.length cq), .v (pt 5 (i * 5)), .v (lineV 7 t.line), olv 8 t.line, oord 9 c1 o, oord 10 c2 o] [encL s.line, encS sts, encS mos, encL t.line, encOrds o]) (dC1 t true true sts mos cp cq (i + 1)) ⟨[(.len 22 (ch 2), sv 41), kt .lss 3 (sv 40) (sv 41), (.ixa 22 (ch 2) (sv 40), ch 4), (.bin .add 3 (sv 40) (iv 1), sv 87)], [⟨42, 4, 5, 1, .agg #[sv 42, sv 43, sv 44, sv 45, sv 46]⟩], []⟩ [(16, [eDo [pt 0 0, pt 2 0, .agg #[sv 42, sv 43, sv 44, sv 45, sv 46]] 7 0 1 2 3 (.row 73 (.lst (syms [])) false) (.orow 34 0 false) (.row 52 (.lst (syms [(26, ch 1)])) false) (.mrow 34 0 false) 47 5 3])] ⟨asLen u22 rfl (by kernel_rfl), qT ((i : Int) < (sts.length : Int)), asIxa u22 z42 rfl rfl (by omega) (by omega) rfl (by simp), asP (u := iv ((i + 1 : Nat) : Int)) (Eq.trans (b := some (iv (IntKind.i64.wrap ((i : Int) + 1)))) (by kernel_rfl) (by rw [wrap_id (by omega) (by omega)]; rfl)) (by kernel_rfl), trivial⟩ ⟨ld_agg a42 z42 rfl (st_len hi) (st_row hi) rfl (by kernel_rfl), trivial⟩ trivial ⟨oe hD, trivial⟩ 10 [(0, 0), (7, 1), (2, 2), (8, 3), (5, 5), (6, 6)] hg
theorem copies_step1n {c1 c2 : Nat} (hi : i < sts.length) (hs : sts.length ≤ 100) (_hl0 : s.line.length < 100000) (_hl : t.line.length < 100000) (hD : Ctr Try.prog 16 [.pointer (some ⟨0, 0, none⟩), .pointer (some ⟨2, 0, none⟩), stepV (stAt sts i).k (stAt sts i).n (stAt sts i).m (stAt sts i).op (stAt sts i).psn] (twoA s) (.tuple #[ordR 6 c1 o, ordR 7 c2 o]) (twoE t o)) (hg : GC T1 T2 sts mos (dC1 t true false sts mos cp cq (i + 1)) (xC1 T1 T2)) : GC T1 T2 sts mos (dC1 s true false sts mos cp cq i) (xC1 T1 T2) := by
  · exact gS (ds s ([iv (i : Nat), iv (sts.length : Nat), iv (stAt sts i).k, iv (stAt sts i).n, iv (stAt sts i).m, iv (stAt sts i).op, iv (stAt sts i).psn] ++ v40 t ++ [iv ((i + 1 : Nat) : Int)]) [.v (lineV 1 s.line), olv 3 s.line, .v (.slice (some ⟨5, 0, none⟩) sts.length cp), ost 6 mos, .v (pt 5 (i * 5)), .v (lineV 7 t.line), olv 8 t.line, oord 9 c1 o, oord 10 c2 o] [encL s.line, encS sts, encS mos, encL t.line, encOrds o]) (dC1 t true false sts mos cp cq (i + 1)) ⟨[(.len 22 (ch 2), sv 41), kt .lss 3 (sv 40) (sv 41), (.ixa 22 (ch 2) (sv 40), ch 4), (.bin .add 3 (sv 40) (iv 1), sv 87)], [⟨42, 4, 5, 1, .agg #[sv 42, sv 43, sv 44, sv 45, sv 46]⟩], []⟩ [(16, [eDo [pt 0 0, pt 2 0, .agg #[sv 42, sv 43, sv 44, sv 45, sv 46]] 7 0 1 2 3 (.row 73 (.lst (syms [])) false) (.orow 34 0 false) (.row 52 (.lst (syms [(26, ch 1)])) false) (.mrow 34 0 false) 47 5 3])] ⟨asLen u22 rfl (by kernel_rfl), qT ((i : Int) < (sts.length : Int)), asIxa u22 z42 rfl rfl (by omega) (by omega) rfl (by simp), asP (u := iv ((i + 1 : Nat) : Int)) (Eq.trans (b := some (iv (IntKind.i64.wrap ((i : Int) + 1)))) (by kernel_rfl) (by rw [wrap_id (by omega) (by omega)]; rfl)) (by kernel_rfl), trivial⟩ ⟨ld_agg a42 z42 rfl (st_len hi) (st_row hi) rfl (by kernel_rfl), trivial⟩ trivial ⟨oe hD, trivial⟩ 10 [(0, 0), (7, 1), (2, 2), (8, 3), (5, 5), (6, 6)] hg
theorem copies_end1ss (hl : s.line.length < 100000) (hg : GC T1 T2 sts mos (dC2 s s true mos cq 0) (xC2 T2)) : GC T1 T2 sts mos (dC1 s true true sts mos cp cq sts.length) (xC1 T1 T2) := by
  · exact gS (ds s [iv (sts.length : Nat)] [.v (lineV 1 s.line), olv 3 s.line, .v (.slice (some ⟨5, 0, none⟩) sts.length cp), .v (.slice (some ⟨6, 0, none⟩) mos.length cq), .v (lineV 8 s.line), olv 10 s.line] [encL s.line, encS sts, encS mos]) (dC2 s s true mos cq 0) ⟨[(.len 22 (ch 2), sv 40), kf .lss 3 (sv 40) (sv 40)], [], [([31, 31], eCpQ 10 5)]⟩ [(28, [eCy 7 4]), (29, [eSa [pt 0 0, pt 7 0] 11 0 1 7 8 (.row 73 (.lst (syms [])) false) (.orow 34 0 false) (.row 73 (.lst (syms [(26, ch 4)])) false) (.orow 34 0 false) true, eSa [pt 7 0, pt 0 0] 11 7 8 0 1 (.row 73 (.lst (syms [(26, ch 4)])) false) (.orow 34 0 false) (.row 73 (.lst (syms [])) false) (.orow 34 0 false) true])] ⟨asLen u22 rfl (by kernel_rfl), qF ((sts.length : Int) < (sts.length : Int)), trivial⟩ trivial ⟨ap (app_cpR s.line (by omega)), trivial⟩ ⟨oe (copy_ctr (s := s) (by omega)), two_entry (entOK (same_lit (s := s) (t := s) (by omega) (sameM_self s)) rfl (by kernel_rfl)) (entOK (same_lit (s := s) (t := s) (by omega) (sameM_self s)) rfl (by kernel_rfl)), trivial⟩ 22 [(0, 0), (1, 1), (2, 2), (3, 3), (6, 6), (7, 7), (8, 8), (9, 9), (10, 10)] hg
theorem copies_end1sn (hl : s.line.length < 100000) (hg : GC T1 T2 sts mos (dC2 s s false mos cq 0) (xC2 T2)) : GC T1 T2 sts mos (dC1 s true false sts mos cp cq sts.length) (xC1 T1 T2) := by
  · exact gS (ds s [iv (sts.length : Nat)] [.v (lineV 1 s.line), olv 3 s.line, .v (.slice (some ⟨5, 0, none⟩) sts.length cp), ost 6 mos, .v (lineV 8 s.line), olv 10 s.line] [encL s.line, encS sts, encS mos]) (dC2 s s false mos cq 0) ⟨[(.len 22 (ch 2), sv 40), kf .lss 3 (sv 40) (sv 40)], [], [([31, 31], eCpQ 10 5)]⟩ [(28, [eCy 7 4]), (29, [eSa [pt 0 0, pt 7 0] 11 0 1 7 8 (.row 73 (.lst (syms [])) false) (.orow 34 0 false) (.row 73 (.lst (syms [(26, ch 4)])) false) (.orow 34 0 false) true, eSa [pt 7 0, pt 0 0] 11 7 8 0 1 (.row 73 (.lst (syms [(26, ch 4)])) false) (.orow 34 0 false) (.row 73 (.lst (syms [])) false) (.orow 34 0 false) true])] ⟨asLen u22 rfl (by kernel_rfl), qF ((sts.length : Int) < (sts.length : Int)), trivial⟩ trivial ⟨ap (app_cpR s.line (by omega)), trivial⟩ ⟨oe (copy_ctr (s := s) (by omega)), two_entry (entOK (same_lit (s := s) (t := s) (by omega) (sameM_self s)) rfl (by kernel_rfl)) (entOK (same_lit (s := s) (t := s) (by omega) (sameM_self s)) rfl (by kernel_rfl)), trivial⟩ 22 [(0, 0), (1, 1), (2, 2), (3, 3), (6, 6), (7, 7), (8, 8), (9, 9), (10, 10)] hg
theorem copies_end1ns (hl : s.line.length < 100000) (hg : GC T1 T2 sts mos (dC2 s s true mos cq 0) (xC2 T2)) : GC T1 T2 sts mos (dC1 s false true sts mos cp cq sts.length) (xC1 T1 T2) := by
  · exact gS (ds s [iv (sts.length : Nat)] [.v (lineV 1 s.line), olv 3 s.line, ost 5 sts, .v (.slice (some ⟨6, 0, none⟩) mos.length cq), .v (lineV 8 s.line), olv 10 s.line] [encL s.line, encS sts, encS mos]) (dC2 s s true mos cq 0) ⟨[(.len 22 (ch 2), sv 40), kf .lss 3 (sv 40) (sv 40)], [], [([31, 31], eCpQ 10 5)]⟩ [(28, [eCy 7 4]), (29, [eSa [pt 0 0, pt 7 0] 11 0 1 7 8 (.row 73 (.lst (syms [])) false) (.orow 34 0 false) (.row 73 (.lst (syms [(26, ch 4)])) false) (.orow 34 0 false) true, eSa [pt 7 0, pt 0 0] 11 7 8 0 1 (.row 73 (.lst (syms [(26, ch 4)])) false) (.orow 34 0 false) (.row 73 (.lst (syms [])) false) (.orow 34 0 false) true])] ⟨asLen u22 rfl (by kernel_rfl), qF ((sts.length : Int) < (sts.length : Int)), trivial⟩ trivial ⟨ap (app_cpR s.line (by omega)), trivial⟩ ⟨oe (copy_ctr (s := s) (by omega)), two_entry (entOK (same_lit (s := s) (t := s) (by omega) (sameM_self s)) rfl (by kernel_rfl)) (entOK (same_lit (s := s) (t := s) (by omega) (sameM_self s)) rfl (by kernel_rfl)), trivial⟩ 22 [(0, 0), (1, 1), (2, 2), (3, 3), (6, 6), (7, 7), (8, 8), (9, 9), (10, 10)] hg
theorem copies_end1nn (hl : s.line.length < 100000) (hg : GC T1 T2 sts mos (dC2 s s false mos cq 0) (xC2 T2)) : GC T1 T2 sts mos (dC1 s false false sts mos cp cq sts.length) (xC1 T1 T2) := by
  · exact gS (ds s [iv (sts.length : Nat)] [.v (lineV 1 s.line), olv 3 s.line, ost 5 sts, ost 6 mos, .v (lineV 8 s.line), olv 10 s.line] [encL s.line, encS sts, encS mos]) (dC2 s s false mos cq 0) ⟨[(.len 22 (ch 2), sv 40), kf .lss 3 (sv 40) (sv 40)], [], [([31, 31], eCpQ 10 5)]⟩ [(28, [eCy 7 4]), (29, [eSa [pt 0 0, pt 7 0] 11 0 1 7 8 (.row 73 (.lst (syms [])) false) (.orow 34 0 false) (.row 73 (.lst (syms [(26, ch 4)])) false) (.orow 34 0 false) true, eSa [pt 7 0, pt 0 0] 11 7 8 0 1 (.row 73 (.lst (syms [(26, ch 4)])) false) (.orow 34 0 false) (.row 73 (.lst (syms [])) false) (.orow 34 0 false) true])] ⟨asLen u22 rfl (by kernel_rfl), qF ((sts.length : Int) < (sts.length : Int)), trivial⟩ trivial ⟨ap (app_cpR s.line (by omega)), trivial⟩ ⟨oe (copy_ctr (s := s) (by omega)), two_entry (entOK (same_lit (s := s) (t := s) (by omega) (sameM_self s)) rfl (by kernel_rfl)) (entOK (same_lit (s := s) (t := s) (by omega) (sameM_self s)) rfl (by kernel_rfl)), trivial⟩ 22 [(0, 0), (1, 1), (2, 2), (3, 3), (6, 6), (7, 7), (8, 8), (9, 9), (10, 10)] hg
theorem copies_step2 {c1 c2 : Nat} (hi : i < mos.length) (hs : mos.length ≤ 100) (_hl0 : s.line.length < 100000) (_hl : t.line.length < 100000) (hD : Ctr Try.prog 16 [.pointer (some ⟨0, 0, none⟩), .pointer (some ⟨2, 0, none⟩), stepV (stAt mos i).k (stAt mos i).n (stAt mos i).m (stAt mos i).op (stAt mos i).psn] (twoA s) (.tuple #[ordR 6 c1 o, ordR 7 c2 o]) (twoE t o)) (hg : GC T1 T2 sts mos (dC2 u t true mos cq (i + 1)) (xC2 T2)) : GC T1 T2 sts mos (dC2 u s true mos cq i) (xC2 T2) := by
  · exact gS (ds s ([iv (i : Nat)] ++ tv u ++ [iv (mos.length : Nat), iv (stAt mos i).k, iv (stAt mos i).n, iv (stAt mos i).m, iv (stAt mos i).op, iv (stAt mos i).psn] ++ tv t ++ [iv ((i + 1 : Nat) : Int)]) [.v (lineV 1 u.line), olv 10 s.line, .v (.slice (some ⟨6, 0, none⟩) mos.length cq), .v (lineV 8 s.line), olv 3 u.line, .v (pt 6 (i * 5)), .v (lineV 11 t.line), olv 12 t.line, oord 13 c1 o, oord 14 c2 o] [encL s.line, encS mos, encL u.line, encL t.line, encOrds o]) (dC2 u t true mos cq (i + 1)) ⟨[(.len 22 (ch 2), sv 81), kt .lss 3 (sv 40) (sv 81), (.ixa 22 (ch 2) (sv 40), ch 5), (.bin .add 3 (sv 40) (iv 1), sv 127)], [⟨42, 5, 6, 1, .agg #[sv 82, sv 83, sv 84, sv 85, sv 86]⟩], []⟩ [(16, [eDo [pt 7 0, pt 9 0, .agg #[sv 82, sv 83, sv 84, sv 85, sv 86]] 11 7 8 9 10 (.row 73 (.lst (syms [(26, ch 3)])) false) (.orow 34 0 false) (.row 52 (.lst (syms [(26, ch 1)])) false) (.mrow 34 0 false) 87 6 3])] ⟨asLen u22 rfl (by kernel_rfl), qT ((i : Int) < (mos.length : Int)), asIxa u22 z42 rfl rfl (by omega) (by omega) rfl (by simp), asP (u := iv ((i + 1 : Nat) : Int)) (Eq.trans (b := some (iv (IntKind.i64.wrap ((i : Int) + 1)))) (by kernel_rfl) (by rw [wrap_id (by omega) (by omega)]; rfl)) (by kernel_rfl), trivial⟩ ⟨ld_agg a42 z42 rfl (st_len hi) (st_row hi) rfl (by kernel_rfl), trivial⟩ trivial ⟨oe hD, trivial⟩ 10 [(0, 0), (1, 1), (2, 2), (3, 3), (6, 6), (7, 7), (11, 8), (9, 9), (12, 10)] hg
theorem copies_bks (hu : u.line.length < 100000) (hl : s.line.length < 100000) (hB : bookEq u s = false) (hS : sameM u s = false) : GC T1 T2 sts mos (dC2 u s true mos cq mos.length) (xC2 T2) := by
  · exact gF (ds s ([iv (mos.length : Nat)] ++ v40 u ++ [.bool (u.wt != 0), .bool (s.wt != 0)]) [.v (lineV 1 u.line), olv 10 s.line, .v (.slice (some ⟨6, 0, none⟩) mos.length cq), .v (lineV 8 s.line), olv 3 u.line, oint 11 (listTo u.sh 8), oint 12 (listTo u.pa 8), olv 13 u.line, oint 14 (listTo s.sh 8), oint 15 (listTo s.pa 8), olv 16 s.line, oint 17 (listTo u.sh 8), oint 18 (listTo u.pa 8), .v (lineV 19 u.line), oint 20 (listTo u.sh 8), oint 21 (listTo u.pa 8), olv 22 u.line] [encL s.line, encS mos, encL u.line, encI (listTo u.sh 8), encI (listTo u.pa 8), encI (listTo s.sh 8), encI (listTo s.pa 8)]) ⟨[(.len 22 (ch 2), sv 40), kf .lss 3 (sv 40) (sv 40)], [], []⟩ [(20, [eBk 11 2 3 (.row 52 (.lst (symsT 41 4)) false) (.mrow 34 2 false) 41 5 81 3 4 (.mrow 34 2 false), eBk 14 9 10 (.row 52 (.lst (syms [(26, ch 1)])) false) (.mrow 34 0 false) 0 8 82 5 6 (.mrow 34 0 false), eBk 20 2 3 (.row 52 (.lst (symsT 41 4)) false) (.mrow 34 2 false) 41 14 81 3 4 (.mrow 34 2 false)]), (19, [eSBv (bkT 41 5 81) (bkT 0 8 82) 17 [(11, .mrow 3 3 false), (12, .mrow 3 4 false), (13, .mrow 34 2 false), (14, .mrow 3 5 false), (15, .mrow 3 6 false), (16, .mrow 34 0 false)] false, eSB (bkT 41 11 81) (bkT 41 14 81) 23 [(17, .mrow 3 3 false), (18, .mrow 3 4 false), (19, .orow 34 2 false), (20, .mrow 3 3 false), (21, .mrow 3 4 false), (22, .mrow 34 2 false)]]), (29, [eSa [pt 0 0, pt 7 0] 17 0 1 7 8 (.row 73 (.lst (symsT 41 0)) false) (.orow 34 2 false) (.row 73 (.lst (syms [(26, ch 3)])) false) (.orow 34 0 false) false]), (15, [eBk 17 0 1 (.row 73 (.lst (symsT 41 0)) false) (.orow 34 2 false) 41 11 81 3 4 (.orow 34 2 false)]), (12, [eKn 23])] ⟨asLen u22 rfl (by kernel_rfl), qF ((mos.length : Int) < (mos.length : Int)), trivial⟩ trivial trivial ⟨three_entry (entOK (bookR_ctr (s := u) (by omega)) rfl (by kernel_rfl)) (entOK (bookR_ctr (s := s) (by omega)) rfl (by kernel_rfl)) (entOK (bookR_ctr (s := u) (by omega)) rfl (by kernel_rfl)), two_entry (entOK (book_lit (s := u) (t := s) (by omega) hB) rfl (by kernel_rfl)) (entOK (sameBook_p (s := u) (by omega)) rfl (by kernel_rfl)), oe (same_lit (s := u) (t := s) (by omega) hS), oe (bookG_ctr (s := u) (by omega)), oe known_ctr, trivial⟩ 12 []
theorem copies_bkn (hu : u.line.length < 100000) (hl : s.line.length < 100000) (hB : bookEq u s = false) (hS : sameM u s = false) : GC T1 T2 sts mos (dC2 u s false mos cq mos.length) (xC2 T2) := by
  · exact gF (ds s ([iv (mos.length : Nat)] ++ v40 u ++ [.bool (u.wt != 0), .bool (s.wt != 0)]) [.v (lineV 1 u.line), olv 10 s.line, ost 6 mos, .v (lineV 8 s.line), olv 3 u.line, oint 11 (listTo u.sh 8), oint 12 (listTo u.pa 8), olv 13 u.line, oint 14 (listTo s.sh 8), oint 15 (listTo s.pa 8), olv 16 s.line, oint 17 (listTo u.sh 8), oint 18 (listTo u.pa 8), .v (lineV 19 u.line), oint 20 (listTo u.sh 8), oint 21 (listTo u.pa 8), olv 22 u.line] [encL s.line, encS mos, encL u.line, encI (listTo u.sh 8), encI (listTo u.pa 8), encI (listTo s.sh 8), encI (listTo s.pa 8)]) ⟨[(.len 22 (ch 2), sv 40), kf .lss 3 (sv 40) (sv 40)], [], []⟩ [(20, [eBk 11 2 3 (.row 52 (.lst (symsT 41 4)) false) (.mrow 34 2 false) 41 5 81 3 4 (.mrow 34 2 false), eBk 14 9 10 (.row 52 (.lst (syms [(26, ch 1)])) false) (.mrow 34 0 false) 0 8 82 5 6 (.mrow 34 0 false), eBk 20 2 3 (.row 52 (.lst (symsT 41 4)) false) (.mrow 34 2 false) 41 14 81 3 4 (.mrow 34 2 false)]), (19, [eSBv (bkT 41 5 81) (bkT 0 8 82) 17 [(11, .mrow 3 3 false), (12, .mrow 3 4 false), (13, .mrow 34 2 false), (14, .mrow 3 5 false), (15, .mrow 3 6 false), (16, .mrow 34 0 false)] false, eSB (bkT 41 11 81) (bkT 41 14 81) 23 [(17, .mrow 3 3 false), (18, .mrow 3 4 false), (19, .orow 34 2 false), (20, .mrow 3 3 false), (21, .mrow 3 4 false), (22, .mrow 34 2 false)]]), (29, [eSa [pt 0 0, pt 7 0] 17 0 1 7 8 (.row 73 (.lst (symsT 41 0)) false) (.orow 34 2 false) (.row 73 (.lst (syms [(26, ch 3)])) false) (.orow 34 0 false) false]), (15, [eBk 17 0 1 (.row 73 (.lst (symsT 41 0)) false) (.orow 34 2 false) 41 11 81 3 4 (.orow 34 2 false)]), (12, [eKn 23])] ⟨asLen u22 rfl (by kernel_rfl), qF ((mos.length : Int) < (mos.length : Int)), trivial⟩ trivial trivial ⟨three_entry (entOK (bookR_ctr (s := u) (by omega)) rfl (by kernel_rfl)) (entOK (bookR_ctr (s := s) (by omega)) rfl (by kernel_rfl)) (entOK (bookR_ctr (s := u) (by omega)) rfl (by kernel_rfl)), two_entry (entOK (book_lit (s := u) (t := s) (by omega) hB) rfl (by kernel_rfl)) (entOK (sameBook_p (s := u) (by omega)) rfl (by kernel_rfl)), oe (same_lit (s := u) (t := s) (by omega) hS), oe (bookG_ctr (s := u) (by omega)), oe known_ctr, trivial⟩ 12 []
theorem copies_wts (hu : u.line.length < 100000) (hl : s.line.length < 100000) (hB : bookEq u s = true) (hW : u.wt ≠ s.wt) (hS : sameM u s = false) : GC T1 T2 sts mos (dC2 u s true mos cq mos.length) (xC2 T2) := by
  · exact gF (ds s ([iv (mos.length : Nat)] ++ v40 u ++ [.bool (u.wt != 0), .bool (s.wt != 0)]) [.v (lineV 1 u.line), olv 10 s.line, .v (.slice (some ⟨6, 0, none⟩) mos.length cq), .v (lineV 8 s.line), olv 3 u.line, oint 11 (listTo u.sh 8), oint 12 (listTo u.pa 8), olv 13 u.line, oint 14 (listTo s.sh 8), oint 15 (listTo s.pa 8), olv 16 s.line, oint 17 (listTo u.sh 8), oint 18 (listTo u.pa 8), .v (lineV 19 u.line), oint 20 (listTo u.sh 8), oint 21 (listTo u.pa 8), olv 22 u.line] [encL s.line, encS mos, encL u.line, encI (listTo u.sh 8), encI (listTo u.pa 8), encI (listTo s.sh 8), encI (listTo s.pa 8)]) ⟨[(.len 22 (ch 2), sv 40), kf .lss 3 (sv 40) (sv 40), kf .eql 3 (sv 70) (sv 29)], [], []⟩ [(20, [eBk 11 2 3 (.row 52 (.lst (symsT 41 4)) false) (.mrow 34 2 false) 41 5 81 3 4 (.mrow 34 2 false), eBk 14 9 10 (.row 52 (.lst (syms [(26, ch 1)])) false) (.mrow 34 0 false) 0 8 82 5 6 (.mrow 34 0 false), eBk 20 2 3 (.row 52 (.lst (symsT 41 4)) false) (.mrow 34 2 false) 41 14 81 3 4 (.mrow 34 2 false)]), (19, [eSBv (bkT 41 5 81) (bkT 0 8 82) 17 [(11, .mrow 3 3 false), (12, .mrow 3 4 false), (13, .mrow 34 2 false), (14, .mrow 3 5 false), (15, .mrow 3 6 false), (16, .mrow 34 0 false)] true, eSB (bkT 41 11 81) (bkT 41 14 81) 23 [(17, .mrow 3 3 false), (18, .mrow 3 4 false), (19, .orow 34 2 false), (20, .mrow 3 3 false), (21, .mrow 3 4 false), (22, .mrow 34 2 false)]]), (29, [eSa [pt 0 0, pt 7 0] 17 0 1 7 8 (.row 73 (.lst (symsT 41 0)) false) (.orow 34 2 false) (.row 73 (.lst (syms [(26, ch 3)])) false) (.orow 34 0 false) false]), (15, [eBk 17 0 1 (.row 73 (.lst (symsT 41 0)) false) (.orow 34 2 false) 41 11 81 3 4 (.orow 34 2 false)]), (12, [eKn 23])] ⟨asLen u22 rfl (by kernel_rfl), qF ((mos.length : Int) < (mos.length : Int)), eF u.wt s.wt, trivial⟩ trivial trivial ⟨three_entry (entOK (bookR_ctr (s := u) (by omega)) rfl (by kernel_rfl)) (entOK (bookR_ctr (s := s) (by omega)) rfl (by kernel_rfl)) (entOK (bookR_ctr (s := u) (by omega)) rfl (by kernel_rfl)), two_entry (entOK (book_lit (s := u) (t := s) (by omega) hB) rfl (by kernel_rfl)) (entOK (sameBook_p (s := u) (by omega)) rfl (by kernel_rfl)), oe (same_lit (s := u) (t := s) (by omega) hS), oe (bookG_ctr (s := u) (by omega)), oe known_ctr, trivial⟩ 12 []
theorem copies_wtn (hu : u.line.length < 100000) (hl : s.line.length < 100000) (hB : bookEq u s = true) (hW : u.wt ≠ s.wt) (hS : sameM u s = false) : GC T1 T2 sts mos (dC2 u s false mos cq mos.length) (xC2 T2) := by
  · exact gF (ds s ([iv (mos.length : Nat)] ++ v40 u ++ [.bool (u.wt != 0), .bool (s.wt != 0)]) [.v (lineV 1 u.line), olv 10 s.line, ost 6 mos, .v (lineV 8 s.line), olv 3 u.line, oint 11 (listTo u.sh 8), oint 12 (listTo u.pa 8), olv 13 u.line, oint 14 (listTo s.sh 8), oint 15 (listTo s.pa 8), olv 16 s.line, oint 17 (listTo u.sh 8), oint 18 (listTo u.pa 8), .v (lineV 19 u.line), oint 20 (listTo u.sh 8), oint 21 (listTo u.pa 8), olv 22 u.line] [encL s.line, encS mos, encL u.line, encI (listTo u.sh 8), encI (listTo u.pa 8), encI (listTo s.sh 8), encI (listTo s.pa 8)]) ⟨[(.len 22 (ch 2), sv 40), kf .lss 3 (sv 40) (sv 40), kf .eql 3 (sv 70) (sv 29)], [], []⟩ [(20, [eBk 11 2 3 (.row 52 (.lst (symsT 41 4)) false) (.mrow 34 2 false) 41 5 81 3 4 (.mrow 34 2 false), eBk 14 9 10 (.row 52 (.lst (syms [(26, ch 1)])) false) (.mrow 34 0 false) 0 8 82 5 6 (.mrow 34 0 false), eBk 20 2 3 (.row 52 (.lst (symsT 41 4)) false) (.mrow 34 2 false) 41 14 81 3 4 (.mrow 34 2 false)]), (19, [eSBv (bkT 41 5 81) (bkT 0 8 82) 17 [(11, .mrow 3 3 false), (12, .mrow 3 4 false), (13, .mrow 34 2 false), (14, .mrow 3 5 false), (15, .mrow 3 6 false), (16, .mrow 34 0 false)] true, eSB (bkT 41 11 81) (bkT 41 14 81) 23 [(17, .mrow 3 3 false), (18, .mrow 3 4 false), (19, .orow 34 2 false), (20, .mrow 3 3 false), (21, .mrow 3 4 false), (22, .mrow 34 2 false)]]), (29, [eSa [pt 0 0, pt 7 0] 17 0 1 7 8 (.row 73 (.lst (symsT 41 0)) false) (.orow 34 2 false) (.row 73 (.lst (syms [(26, ch 3)])) false) (.orow 34 0 false) false]), (15, [eBk 17 0 1 (.row 73 (.lst (symsT 41 0)) false) (.orow 34 2 false) 41 11 81 3 4 (.orow 34 2 false)]), (12, [eKn 23])] ⟨asLen u22 rfl (by kernel_rfl), qF ((mos.length : Int) < (mos.length : Int)), eF u.wt s.wt, trivial⟩ trivial trivial ⟨three_entry (entOK (bookR_ctr (s := u) (by omega)) rfl (by kernel_rfl)) (entOK (bookR_ctr (s := s) (by omega)) rfl (by kernel_rfl)) (entOK (bookR_ctr (s := u) (by omega)) rfl (by kernel_rfl)), two_entry (entOK (book_lit (s := u) (t := s) (by omega) hB) rfl (by kernel_rfl)) (entOK (sameBook_p (s := u) (by omega)) rfl (by kernel_rfl)), oe (same_lit (s := u) (t := s) (by omega) hS), oe (bookG_ctr (s := u) (by omega)), oe known_ctr, trivial⟩ 12 []
theorem copies_gos (hu : u.line.length < 100000) (hl : s.line.length < 100000) (hB : bookEq u s = true) (hW : u.wt = s.wt) (hG : bq8 u.go s.go = false) (hS : sameM u s = false) : GC T1 T2 sts mos (dC2 u s true mos cq mos.length) (xC2 T2) := by
  · exact gF (ds s ([iv (mos.length : Nat)] ++ v40 u ++ [.bool (u.wt != 0), .bool (s.wt != 0)]) [.v (lineV 1 u.line), olv 10 s.line, .v (.slice (some ⟨6, 0, none⟩) mos.length cq), .v (lineV 8 s.line), olv 3 u.line, oint 11 (listTo u.sh 8), oint 12 (listTo u.pa 8), olv 13 u.line, oint 14 (listTo s.sh 8), oint 15 (listTo s.pa 8), olv 16 s.line, oint 17 (listTo u.sh 8), oint 18 (listTo u.pa 8), .v (lineV 19 u.line), oint 20 (listTo u.sh 8), oint 21 (listTo u.pa 8), olv 22 u.line] [encL s.line, encS mos, encL u.line, encI (listTo u.sh 8), encI (listTo u.pa 8), encI (listTo s.sh 8), encI (listTo s.pa 8)]) ⟨[(.len 22 (ch 2), sv 40), kf .lss 3 (sv 40) (sv 40), kt .eql 3 (sv 70) (sv 29), kf .eql 48 (.agg (v8 71)) (.agg (v8 30))], [], []⟩ [(20, [eBk 11 2 3 (.row 52 (.lst (symsT 41 4)) false) (.mrow 34 2 false) 41 5 81 3 4 (.mrow 34 2 false), eBk 14 9 10 (.row 52 (.lst (syms [(26, ch 1)])) false) (.mrow 34 0 false) 0 8 82 5 6 (.mrow 34 0 false), eBk 20 2 3 (.row 52 (.lst (symsT 41 4)) false) (.mrow 34 2 false) 41 14 81 3 4 (.mrow 34 2 false)]), (19, [eSBv (bkT 41 5 81) (bkT 0 8 82) 17 [(11, .mrow 3 3 false), (12, .mrow 3 4 false), (13, .mrow 34 2 false), (14, .mrow 3 5 false), (15, .mrow 3 6 false), (16, .mrow 34 0 false)] true, eSB (bkT 41 11 81) (bkT 41 14 81) 23 [(17, .mrow 3 3 false), (18, .mrow 3 4 false), (19, .orow 34 2 false), (20, .mrow 3 3 false), (21, .mrow 3 4 false), (22, .mrow 34 2 false)]]), (29, [eSa [pt 0 0, pt 7 0] 17 0 1 7 8 (.row 73 (.lst (symsT 41 0)) false) (.orow 34 2 false) (.row 73 (.lst (syms [(26, ch 3)])) false) (.orow 34 0 false) false]), (15, [eBk 17 0 1 (.row 73 (.lst (symsT 41 0)) false) (.orow 34 2 false) 41 11 81 3 4 (.orow 34 2 false)]), (12, [eKn 23])] ⟨asLen u22 rfl (by kernel_rfl), qF ((mos.length : Int) < (mos.length : Int)), eT u.wt s.wt, asEqA (c := false) (Eq.trans (b := some (bq8 u.go s.go)) (by kernel_rfl) (congrArg some hG)) rfl, trivial⟩ trivial trivial ⟨three_entry (entOK (bookR_ctr (s := u) (by omega)) rfl (by kernel_rfl)) (entOK (bookR_ctr (s := s) (by omega)) rfl (by kernel_rfl)) (entOK (bookR_ctr (s := u) (by omega)) rfl (by kernel_rfl)), two_entry (entOK (book_lit (s := u) (t := s) (by omega) hB) rfl (by kernel_rfl)) (entOK (sameBook_p (s := u) (by omega)) rfl (by kernel_rfl)), oe (same_lit (s := u) (t := s) (by omega) hS), oe (bookG_ctr (s := u) (by omega)), oe known_ctr, trivial⟩ 12 []
theorem copies_gon (hu : u.line.length < 100000) (hl : s.line.length < 100000) (hB : bookEq u s = true) (hW : u.wt = s.wt) (hG : bq8 u.go s.go = false) (hS : sameM u s = false) : GC T1 T2 sts mos (dC2 u s false mos cq mos.length) (xC2 T2) := by
  · exact gF (ds s ([iv (mos.length : Nat)] ++ v40 u ++ [.bool (u.wt != 0), .bool (s.wt != 0)]) [.v (lineV 1 u.line), olv 10 s.line, ost 6 mos, .v (lineV 8 s.line), olv 3 u.line, oint 11 (listTo u.sh 8), oint 12 (listTo u.pa 8), olv 13 u.line, oint 14 (listTo s.sh 8), oint 15 (listTo s.pa 8), olv 16 s.line, oint 17 (listTo u.sh 8), oint 18 (listTo u.pa 8), .v (lineV 19 u.line), oint 20 (listTo u.sh 8), oint 21 (listTo u.pa 8), olv 22 u.line] [encL s.line, encS mos, encL u.line, encI (listTo u.sh 8), encI (listTo u.pa 8), encI (listTo s.sh 8), encI (listTo s.pa 8)]) ⟨[(.len 22 (ch 2), sv 40), kf .lss 3 (sv 40) (sv 40), kt .eql 3 (sv 70) (sv 29), kf .eql 48 (.agg (v8 71)) (.agg (v8 30))], [], []⟩ [(20, [eBk 11 2 3 (.row 52 (.lst (symsT 41 4)) false) (.mrow 34 2 false) 41 5 81 3 4 (.mrow 34 2 false), eBk 14 9 10 (.row 52 (.lst (syms [(26, ch 1)])) false) (.mrow 34 0 false) 0 8 82 5 6 (.mrow 34 0 false), eBk 20 2 3 (.row 52 (.lst (symsT 41 4)) false) (.mrow 34 2 false) 41 14 81 3 4 (.mrow 34 2 false)]), (19, [eSBv (bkT 41 5 81) (bkT 0 8 82) 17 [(11, .mrow 3 3 false), (12, .mrow 3 4 false), (13, .mrow 34 2 false), (14, .mrow 3 5 false), (15, .mrow 3 6 false), (16, .mrow 34 0 false)] true, eSB (bkT 41 11 81) (bkT 41 14 81) 23 [(17, .mrow 3 3 false), (18, .mrow 3 4 false), (19, .orow 34 2 false), (20, .mrow 3 3 false), (21, .mrow 3 4 false), (22, .mrow 34 2 false)]]), (29, [eSa [pt 0 0, pt 7 0] 17 0 1 7 8 (.row 73 (.lst (symsT 41 0)) false) (.orow 34 2 false) (.row 73 (.lst (syms [(26, ch 3)])) false) (.orow 34 0 false) false]), (15, [eBk 17 0 1 (.row 73 (.lst (symsT 41 0)) false) (.orow 34 2 false) 41 11 81 3 4 (.orow 34 2 false)]), (12, [eKn 23])] ⟨asLen u22 rfl (by kernel_rfl), qF ((mos.length : Int) < (mos.length : Int)), eT u.wt s.wt, asEqA (c := false) (Eq.trans (b := some (bq8 u.go s.go)) (by kernel_rfl) (congrArg some hG)) rfl, trivial⟩ trivial trivial ⟨three_entry (entOK (bookR_ctr (s := u) (by omega)) rfl (by kernel_rfl)) (entOK (bookR_ctr (s := s) (by omega)) rfl (by kernel_rfl)) (entOK (bookR_ctr (s := u) (by omega)) rfl (by kernel_rfl)), two_entry (entOK (book_lit (s := u) (t := s) (by omega) hB) rfl (by kernel_rfl)) (entOK (sameBook_p (s := u) (by omega)) rfl (by kernel_rfl)), oe (same_lit (s := u) (t := s) (by omega) hS), oe (bookG_ctr (s := u) (by omega)), oe known_ctr, trivial⟩ 12 []
theorem copies_sus (hu : u.line.length < 100000) (hl : s.line.length < 100000) (hB : bookEq u s = true) (hW : u.wt = s.wt) (hG : bq8 u.go s.go = true) (hU : u.su ≠ s.su) (hS : sameM u s = false) : GC T1 T2 sts mos (dC2 u s true mos cq mos.length) (xC2 T2) := by
  · exact gF (ds s ([iv (mos.length : Nat)] ++ v40 u ++ [.bool (u.wt != 0), .bool (s.wt != 0)]) [.v (lineV 1 u.line), olv 10 s.line, .v (.slice (some ⟨6, 0, none⟩) mos.length cq), .v (lineV 8 s.line), olv 3 u.line, oint 11 (listTo u.sh 8), oint 12 (listTo u.pa 8), olv 13 u.line, oint 14 (listTo s.sh 8), oint 15 (listTo s.pa 8), olv 16 s.line, oint 17 (listTo u.sh 8), oint 18 (listTo u.pa 8), .v (lineV 19 u.line), oint 20 (listTo u.sh 8), oint 21 (listTo u.pa 8), olv 22 u.line] [encL s.line, encS mos, encL u.line, encI (listTo u.sh 8), encI (listTo u.pa 8), encI (listTo s.sh 8), encI (listTo s.pa 8)]) ⟨[(.len 22 (ch 2), sv 40), kf .lss 3 (sv 40) (sv 40), kt .eql 3 (sv 70) (sv 29), kt .eql 48 (.agg (v8 71)) (.agg (v8 30)), kf .eql 3 (sv 79) (sv 38)], [], []⟩ [(20, [eBk 11 2 3 (.row 52 (.lst (symsT 41 4)) false) (.mrow 34 2 false) 41 5 81 3 4 (.mrow 34 2 false), eBk 14 9 10 (.row 52 (.lst (syms [(26, ch 1)])) false) (.mrow 34 0 false) 0 8 82 5 6 (.mrow 34 0 false), eBk 20 2 3 (.row 52 (.lst (symsT 41 4)) false) (.mrow 34 2 false) 41 14 81 3 4 (.mrow 34 2 false)]), (19, [eSBv (bkT 41 5 81) (bkT 0 8 82) 17 [(11, .mrow 3 3 false), (12, .mrow 3 4 false), (13, .mrow 34 2 false), (14, .mrow 3 5 false), (15, .mrow 3 6 false), (16, .mrow 34 0 false)] true, eSB (bkT 41 11 81) (bkT 41 14 81) 23 [(17, .mrow 3 3 false), (18, .mrow 3 4 false), (19, .orow 34 2 false), (20, .mrow 3 3 false), (21, .mrow 3 4 false), (22, .mrow 34 2 false)]]), (29, [eSa [pt 0 0, pt 7 0] 17 0 1 7 8 (.row 73 (.lst (symsT 41 0)) false) (.orow 34 2 false) (.row 73 (.lst (syms [(26, ch 3)])) false) (.orow 34 0 false) false]), (15, [eBk 17 0 1 (.row 73 (.lst (symsT 41 0)) false) (.orow 34 2 false) 41 11 81 3 4 (.orow 34 2 false)]), (12, [eKn 23])] ⟨asLen u22 rfl (by kernel_rfl), qF ((mos.length : Int) < (mos.length : Int)), eT u.wt s.wt, asEqA (c := true) (Eq.trans (b := some (bq8 u.go s.go)) (by kernel_rfl) (congrArg some hG)) rfl, eF u.su s.su, trivial⟩ trivial trivial ⟨three_entry (entOK (bookR_ctr (s := u) (by omega)) rfl (by kernel_rfl)) (entOK (bookR_ctr (s := s) (by omega)) rfl (by kernel_rfl)) (entOK (bookR_ctr (s := u) (by omega)) rfl (by kernel_rfl)), two_entry (entOK (book_lit (s := u) (t := s) (by omega) hB) rfl (by kernel_rfl)) (entOK (sameBook_p (s := u) (by omega)) rfl (by kernel_rfl)), oe (same_lit (s := u) (t := s) (by omega) hS), oe (bookG_ctr (s := u) (by omega)), oe known_ctr, trivial⟩ 12 []
theorem copies_sun (hu : u.line.length < 100000) (hl : s.line.length < 100000) (hB : bookEq u s = true) (hW : u.wt = s.wt) (hG : bq8 u.go s.go = true) (hU : u.su ≠ s.su) (hS : sameM u s = false) : GC T1 T2 sts mos (dC2 u s false mos cq mos.length) (xC2 T2) := by
  · exact gF (ds s ([iv (mos.length : Nat)] ++ v40 u ++ [.bool (u.wt != 0), .bool (s.wt != 0)]) [.v (lineV 1 u.line), olv 10 s.line, ost 6 mos, .v (lineV 8 s.line), olv 3 u.line, oint 11 (listTo u.sh 8), oint 12 (listTo u.pa 8), olv 13 u.line, oint 14 (listTo s.sh 8), oint 15 (listTo s.pa 8), olv 16 s.line, oint 17 (listTo u.sh 8), oint 18 (listTo u.pa 8), .v (lineV 19 u.line), oint 20 (listTo u.sh 8), oint 21 (listTo u.pa 8), olv 22 u.line] [encL s.line, encS mos, encL u.line, encI (listTo u.sh 8), encI (listTo u.pa 8), encI (listTo s.sh 8), encI (listTo s.pa 8)]) ⟨[(.len 22 (ch 2), sv 40), kf .lss 3 (sv 40) (sv 40), kt .eql 3 (sv 70) (sv 29), kt .eql 48 (.agg (v8 71)) (.agg (v8 30)), kf .eql 3 (sv 79) (sv 38)], [], []⟩ [(20, [eBk 11 2 3 (.row 52 (.lst (symsT 41 4)) false) (.mrow 34 2 false) 41 5 81 3 4 (.mrow 34 2 false), eBk 14 9 10 (.row 52 (.lst (syms [(26, ch 1)])) false) (.mrow 34 0 false) 0 8 82 5 6 (.mrow 34 0 false), eBk 20 2 3 (.row 52 (.lst (symsT 41 4)) false) (.mrow 34 2 false) 41 14 81 3 4 (.mrow 34 2 false)]), (19, [eSBv (bkT 41 5 81) (bkT 0 8 82) 17 [(11, .mrow 3 3 false), (12, .mrow 3 4 false), (13, .mrow 34 2 false), (14, .mrow 3 5 false), (15, .mrow 3 6 false), (16, .mrow 34 0 false)] true, eSB (bkT 41 11 81) (bkT 41 14 81) 23 [(17, .mrow 3 3 false), (18, .mrow 3 4 false), (19, .orow 34 2 false), (20, .mrow 3 3 false), (21, .mrow 3 4 false), (22, .mrow 34 2 false)]]), (29, [eSa [pt 0 0, pt 7 0] 17 0 1 7 8 (.row 73 (.lst (symsT 41 0)) false) (.orow 34 2 false) (.row 73 (.lst (syms [(26, ch 3)])) false) (.orow 34 0 false) false]), (15, [eBk 17 0 1 (.row 73 (.lst (symsT 41 0)) false) (.orow 34 2 false) 41 11 81 3 4 (.orow 34 2 false)]), (12, [eKn 23])] ⟨asLen u22 rfl (by kernel_rfl), qF ((mos.length : Int) < (mos.length : Int)), eT u.wt s.wt, asEqA (c := true) (Eq.trans (b := some (bq8 u.go s.go)) (by kernel_rfl) (congrArg some hG)) rfl, eF u.su s.su, trivial⟩ trivial trivial ⟨three_entry (entOK (bookR_ctr (s := u) (by omega)) rfl (by kernel_rfl)) (entOK (bookR_ctr (s := s) (by omega)) rfl (by kernel_rfl)) (entOK (bookR_ctr (s := u) (by omega)) rfl (by kernel_rfl)), two_entry (entOK (book_lit (s := u) (t := s) (by omega) hB) rfl (by kernel_rfl)) (entOK (sameBook_p (s := u) (by omega)) rfl (by kernel_rfl)), oe (same_lit (s := u) (t := s) (by omega) hS), oe (bookG_ctr (s := u) (by omega)), oe known_ctr, trivial⟩ 12 []
theorem copies_alls (hu : u.line.length < 100000) (hl : s.line.length < 100000) (hB : bookEq u s = true) (hW : u.wt = s.wt) (hG : bq8 u.go s.go = true) (hU : u.su = s.su) (hS : sameM u s = true) : GC T1 T2 sts mos (dC2 u s true mos cq mos.length) (xC2 T2) := by
  · exact gF (ds s ([iv (mos.length : Nat)] ++ v40 u ++ [.bool (u.wt != 0), .bool (s.wt != 0)]) [.v (lineV 1 u.line), olv 10 s.line, .v (.slice (some ⟨6, 0, none⟩) mos.length cq), .v (lineV 8 s.line), olv 3 u.line, oint 11 (listTo u.sh 8), oint 12 (listTo u.pa 8), olv 13 u.line, oint 14 (listTo s.sh 8), oint 15 (listTo s.pa 8), olv 16 s.line, oint 17 (listTo u.sh 8), oint 18 (listTo u.pa 8), .v (lineV 19 u.line), oint 20 (listTo u.sh 8), oint 21 (listTo u.pa 8), olv 22 u.line] [encL s.line, encS mos, encL u.line, encI (listTo u.sh 8), encI (listTo u.pa 8), encI (listTo s.sh 8), encI (listTo s.pa 8)]) ⟨[(.len 22 (ch 2), sv 40), kf .lss 3 (sv 40) (sv 40), kt .eql 3 (sv 70) (sv 29), kt .eql 48 (.agg (v8 71)) (.agg (v8 30)), kt .eql 3 (sv 79) (sv 38)], [], []⟩ [(20, [eBk 11 2 3 (.row 52 (.lst (symsT 41 4)) false) (.mrow 34 2 false) 41 5 81 3 4 (.mrow 34 2 false), eBk 14 9 10 (.row 52 (.lst (syms [(26, ch 1)])) false) (.mrow 34 0 false) 0 8 82 5 6 (.mrow 34 0 false), eBk 20 2 3 (.row 52 (.lst (symsT 41 4)) false) (.mrow 34 2 false) 41 14 81 3 4 (.mrow 34 2 false)]), (19, [eSBv (bkT 41 5 81) (bkT 0 8 82) 17 [(11, .mrow 3 3 false), (12, .mrow 3 4 false), (13, .mrow 34 2 false), (14, .mrow 3 5 false), (15, .mrow 3 6 false), (16, .mrow 34 0 false)] true, eSB (bkT 41 11 81) (bkT 41 14 81) 23 [(17, .mrow 3 3 false), (18, .mrow 3 4 false), (19, .orow 34 2 false), (20, .mrow 3 3 false), (21, .mrow 3 4 false), (22, .mrow 34 2 false)]]), (29, [eSa [pt 0 0, pt 7 0] 17 0 1 7 8 (.row 73 (.lst (symsT 41 0)) false) (.orow 34 2 false) (.row 73 (.lst (syms [(26, ch 3)])) false) (.orow 34 0 false) true]), (15, [eBk 17 0 1 (.row 73 (.lst (symsT 41 0)) false) (.orow 34 2 false) 41 11 81 3 4 (.orow 34 2 false)]), (12, [eKn 23])] ⟨asLen u22 rfl (by kernel_rfl), qF ((mos.length : Int) < (mos.length : Int)), eT u.wt s.wt, asEqA (c := true) (Eq.trans (b := some (bq8 u.go s.go)) (by kernel_rfl) (congrArg some hG)) rfl, eT u.su s.su, trivial⟩ trivial trivial ⟨three_entry (entOK (bookR_ctr (s := u) (by omega)) rfl (by kernel_rfl)) (entOK (bookR_ctr (s := s) (by omega)) rfl (by kernel_rfl)) (entOK (bookR_ctr (s := u) (by omega)) rfl (by kernel_rfl)), two_entry (entOK (book_lit (s := u) (t := s) (by omega) hB) rfl (by kernel_rfl)) (entOK (sameBook_p (s := u) (by omega)) rfl (by kernel_rfl)), oe (same_lit (s := u) (t := s) (by omega) hS), oe (bookG_ctr (s := u) (by omega)), oe known_ctr, trivial⟩ 12 []
theorem copies_alln (hu : u.line.length < 100000) (hl : s.line.length < 100000) (hB : bookEq u s = true) (hW : u.wt = s.wt) (hG : bq8 u.go s.go = true) (hU : u.su = s.su) (hS : sameM u s = true) : GC T1 T2 sts mos (dC2 u s false mos cq mos.length) (xC2 T2) := by
  · exact gF (ds s ([iv (mos.length : Nat)] ++ v40 u ++ [.bool (u.wt != 0), .bool (s.wt != 0)]) [.v (lineV 1 u.line), olv 10 s.line, ost 6 mos, .v (lineV 8 s.line), olv 3 u.line, oint 11 (listTo u.sh 8), oint 12 (listTo u.pa 8), olv 13 u.line, oint 14 (listTo s.sh 8), oint 15 (listTo s.pa 8), olv 16 s.line, oint 17 (listTo u.sh 8), oint 18 (listTo u.pa 8), .v (lineV 19 u.line), oint 20 (listTo u.sh 8), oint 21 (listTo u.pa 8), olv 22 u.line] [encL s.line, encS mos, encL u.line, encI (listTo u.sh 8), encI (listTo u.pa 8), encI (listTo s.sh 8), encI (listTo s.pa 8)]) ⟨[(.len 22 (ch 2), sv 40), kf .lss 3 (sv 40) (sv 40), kt .eql 3 (sv 70) (sv 29), kt .eql 48 (.agg (v8 71)) (.agg (v8 30)), kt .eql 3 (sv 79) (sv 38)], [], []⟩ [(20, [eBk 11 2 3 (.row 52 (.lst (symsT 41 4)) false) (.mrow 34 2 false) 41 5 81 3 4 (.mrow 34 2 false), eBk 14 9 10 (.row 52 (.lst (syms [(26, ch 1)])) false) (.mrow 34 0 false) 0 8 82 5 6 (.mrow 34 0 false), eBk 20 2 3 (.row 52 (.lst (symsT 41 4)) false) (.mrow 34 2 false) 41 14 81 3 4 (.mrow 34 2 false)]), (19, [eSBv (bkT 41 5 81) (bkT 0 8 82) 17 [(11, .mrow 3 3 false), (12, .mrow 3 4 false), (13, .mrow 34 2 false), (14, .mrow 3 5 false), (15, .mrow 3 6 false), (16, .mrow 34 0 false)] true, eSB (bkT 41 11 81) (bkT 41 14 81) 23 [(17, .mrow 3 3 false), (18, .mrow 3 4 false), (19, .orow 34 2 false), (20, .mrow 3 3 false), (21, .mrow 3 4 false), (22, .mrow 34 2 false)]]), (29, [eSa [pt 0 0, pt 7 0] 17 0 1 7 8 (.row 73 (.lst (symsT 41 0)) false) (.orow 34 2 false) (.row 73 (.lst (syms [(26, ch 3)])) false) (.orow 34 0 false) true]), (15, [eBk 17 0 1 (.row 73 (.lst (symsT 41 0)) false) (.orow 34 2 false) 41 11 81 3 4 (.orow 34 2 false)]), (12, [eKn 23])] ⟨asLen u22 rfl (by kernel_rfl), qF ((mos.length : Int) < (mos.length : Int)), eT u.wt s.wt, asEqA (c := true) (Eq.trans (b := some (bq8 u.go s.go)) (by kernel_rfl) (congrArg some hG)) rfl, eT u.su s.su, trivial⟩ trivial trivial ⟨three_entry (entOK (bookR_ctr (s := u) (by omega)) rfl (by kernel_rfl)) (entOK (bookR_ctr (s := s) (by omega)) rfl (by kernel_rfl)) (entOK (bookR_ctr (s := u) (by omega)) rfl (by kernel_rfl)), two_entry (entOK (book_lit (s := u) (t := s) (by omega) hB) rfl (by kernel_rfl)) (entOK (sameBook_p (s := u) (by omega)) rfl (by kernel_rfl)), oe (same_lit (s := u) (t := s) (by omega) hS), oe (bookG_ctr (s := u) (by omega)), oe known_ctr, trivial⟩ 12 []
theorem ite_tf {p : Prop} [Decidable p] {q : Bool} : ((if p then q else false) = true) ↔ (p ∧ q = true) := by
  by_cases h : p
  · rw [if_pos h]; exact ⟨fun a => ⟨h, a⟩, fun a => a.2⟩
  · rw [if_neg h]; exact ⟨fun a => (by cases a), fun a => absurd a.1 h⟩
theorem mem_of_lt {f : Nat → Bool} {n : Nat} : ∀ (k : Nat), n < k → f n = true → (n : Int) ∈ listTo f k
  | 0, h, _ => by omega
  | k + 1, h, hf => by
    simp only [listTo]
    by_cases e : n = k
    · subst e; rw [if_pos hf]; exact List.mem_append_right _ List.mem_cons_self
    · have := mem_of_lt k (by omega) hf
      split
      · exact List.mem_append_left _ this
      · exact this
theorem lt_of_mem {f : Nat → Bool} {n : Nat} : ∀ (k : Nat), (n : Int) ∈ listTo f k → n < k ∧ f n = true
  | 0, h => by cases h
  | k + 1, h => by
    simp only [listTo] at h
    split at h
    · rename_i hk
      rcases List.mem_append.1 h with h | h
      · have := lt_of_mem k h; exact ⟨by omega, this.2⟩
      · have e := List.mem_singleton.1 h
        have : n = k := by omega
        subst this; exact ⟨by omega, hk⟩
    · have := lt_of_mem k h; exact ⟨by omega, this.2⟩
theorem bq8_iff {f g : Nat → Bool} : bq8 f g = true ↔ ∀ n, n < 8 → f n = g n := by
  simp only [bq8, Bool.and_true, Bool.and_eq_true, beq_iff_eq]
  refine ⟨fun ⟨h0, h1, h2, h3, h4, h5, h6, h7⟩ n hn => ?_, fun h => ⟨h 0 (by omega), h 1 (by omega), h 2 (by omega), h 3 (by omega), h 4 (by omega), h 5 (by omega), h 6 (by omega), h 7 (by omega)⟩⟩
  rcases lt8 hn with rfl | rfl | rfl | rfl | rfl | rfl | rfl | rfl <;> assumption
theorem listTo_ext {f g : Nat → Bool} : ∀ k : Nat, (∀ n, n < k → f n = g n) → listTo f k = listTo g k
  | 0, _ => rfl
  | k + 1, h => by
    simp only [listTo]
    rw [listTo_ext k fun n hn => h n (by omega), h k (by omega)]
theorem listTo_iff {f g : Nat → Bool} : listTo f 8 = listTo g 8 ↔ bq8 f g = true := by
  rw [bq8_iff]
  refine ⟨fun h n hn => ?_, listTo_ext 8⟩
  cases hf : f n with
  | true => exact (lt_of_mem 8 (h ▸ mem_of_lt 8 hn hf)).2.symm
  | false =>
    cases hg : g n with
    | false => rfl
    | true => have := (lt_of_mem 8 (h.symm ▸ mem_of_lt 8 hn hg)).2; rw [hf] at this; cases this
theorem same_iff : sameM u s = true ↔ (bookEq u s = true ∧ u.wt = s.wt ∧ bq8 u.go s.go = true ∧ u.su = s.su) := by
  unfold sameM bookEq
  simp only [ite_tf, decide_eq_true_eq, listTo_iff]
  refine ⟨fun ⟨h0, h1, h2, h3, h4, h5, h6, h7, h8, h9, h10, _⟩ => ⟨⟨h0, h1, h2, h3, h4, by rw [h5], h6, by rw [h7]; simp, h10, h5⟩, h7, h8, h9⟩, fun ⟨⟨h0, h1, h2, h3, h4, _, h6, _, h8, h9⟩, a, b, c⟩ => ⟨h0, h1, h2, h3, h4, h9, h6, a, b, c, h8, trivial⟩⟩
theorem copies_end2 (b : Bool) (hu : u.line.length < 100000) (hl : s.line.length < 100000) : GC T1 T2 sts mos (dC2 u s b mos cq mos.length) (xC2 T2) := by
  have no : ∀ {b : Bool}, ¬ b = true → b = false := fun h => Bool.eq_false_iff.2 h
  by_cases hB : bookEq u s = true
  · by_cases hW : u.wt = s.wt
    · by_cases hG : bq8 u.go s.go = true
      · by_cases hU : u.su = s.su
        · cases b with
          | true => exact copies_alls hu hl hB hW hG hU (same_iff.2 ⟨hB, hW, hG, hU⟩)
          | false => exact copies_alln hu hl hB hW hG hU (same_iff.2 ⟨hB, hW, hG, hU⟩)
        · cases b with
          | true => exact copies_sus hu hl hB hW hG hU (no fun h => hU (same_iff.1 h).2.2.2)
          | false => exact copies_sun hu hl hB hW hG hU (no fun h => hU (same_iff.1 h).2.2.2)
      · cases b with
        | true => exact copies_gos hu hl hB hW (no hG) (no fun h => hG (same_iff.1 h).2.2.1)
        | false => exact copies_gon hu hl hB hW (no hG) (no fun h => hG (same_iff.1 h).2.2.1)
    · cases b with
      | true => exact copies_wts hu hl hB hW (no fun h => hW (same_iff.1 h).2.1)
      | false => exact copies_wtn hu hl hB hW (no fun h => hW (same_iff.1 h).2.1)
  · cases b with
    | true => exact copies_bks hu hl (no hB) (no fun h => hB (same_iff.1 h).1)
    | false => exact copies_bkn hu hl (no hB) (no fun h => hB (same_iff.1 h).1)
theorem copies_two {b : Bool} (h2 : mos = [] ∨ b = true) (hs : mos.length ≤ 100) (hu : u.line.length < 100000) : ∀ (j i : Nat) (s : St), i + j = mos.length → P2 s → s.op + s.line.length ≤ 200 + i → GC T1 T2 sts mos (dC2 u s b mos cq i) (xC2 T2)
  | 0, i, s, h, hp, hb => by
    have : i = mos.length := by omega
    subst this
    have := hp.post.inv.op
    exact copies_end2 b hu (by omega)
  | j + 1, i, s, h, hp, hb => by
    have hi : i < mos.length := by omega
    rcases h2 with rfl | rfl
    · cases hi
    obtain ⟨hd, hp', hr⟩ := do_ctr hp (by omega) (stAt mos i).k (stAt mos i).n (stAt mos i).m (stAt mos i).op (stAt mos i).psn
    obtain ⟨c1, c2, _, _, hD⟩ := hd.get
    have h1 := hr.tot
    have h3 := hp.post.inv.op
    have h4 := hp'.post.inv.op
    exact copies_step2 hi hs (by omega) (by omega) hD (copies_two (.inr rfl) hs hu j (i + 1) _ (by omega) hp' (by omega))
theorem copies_mid {b1 b2 : Bool} (h2 : mos = [] ∨ b2 = true) (hs2 : mos.length ≤ 100) (hp : P2 s) (hb : s.op + s.line.length ≤ 200) : GC T1 T2 sts mos (dC1 s b1 b2 sts mos cp cq sts.length) (xC1 T1 T2) := by
  have h3 := hp.post.inv.op
  have h := copies_two (u := s) (cq := cq) (T1 := T1) (T2 := T2) (sts := sts) h2 hs2 (by omega) mos.length 0 s (Nat.zero_add _) hp (by omega)
  cases b1 <;> cases b2
  · exact copies_end1nn (by omega) h
  · exact copies_end1ns (by omega) h
  · exact copies_end1sn (by omega) h
  · exact copies_end1ss (by omega) h
theorem copies_one {b1 b2 : Bool} (h1 : sts = [] ∨ b1 = true) (h2 : mos = [] ∨ b2 = true) (hs1 : sts.length ≤ 100) (hs2 : mos.length ≤ 100) : ∀ (j i : Nat) (s : St), i + j = sts.length → P2 s → s.op + s.line.length ≤ i → GC T1 T2 sts mos (dC1 s b1 b2 sts mos cp cq i) (xC1 T1 T2)
  | 0, i, s, h, hp, hb => by
    have : i = sts.length := by omega
    subst this
    exact copies_mid h2 hs2 hp (by omega)
  | j + 1, i, s, h, hp, hb => by
    have hi : i < sts.length := by omega
    rcases h1 with rfl | rfl
    · cases hi
    obtain ⟨hd, hp', hr⟩ := do_ctr hp (by omega) (stAt sts i).k (stAt sts i).n (stAt sts i).m (stAt sts i).op (stAt sts i).psn
    obtain ⟨c1, c2, _, _, hD⟩ := hd.get
    have h1' := hr.tot
    have h3 := hp.post.inv.op
    have h4 := hp'.post.inv.op
    have hn := copies_one (.inr rfl) h2 hs1 hs2 j (i + 1) _ (by omega) hp' (by omega)
    cases b2 with
    | true => exact copies_step1s hi hs1 (by omega) (by omega) hD hn
    | false => exact copies_step1n hi hs1 (by omega) (by omega) hD hn
theorem copies_go0 {b1 b2 : Bool} (h1 : sts = [] ∨ b1 = true) (h2 : mos = [] ∨ b2 = true) (hs1 : sts.length ≤ 100) (hs2 : mos.length ≤ 100) : GC T1 T2 sts mos (dC1 newS b1 b2 sts mos cp cq 0) (xC1 T1 T2) := copies_one h1 h2 hs1 hs2 sts.length 0 newS (Nat.zero_add _) newS_P2 (by decide)
theorem copies_ctrss (hg : sts.length ≤ 100 → mos.length ≤ 100 → GC T1 T2 sts mos (dC1 newS true true sts mos cp cq 0) (xC1 T1 T2)) : Ctr Try.prog 8 [.slice (some ⟨5, 0, none⟩) sts.length cp, .slice (some ⟨6, 0, none⟩) mos.length cq] [(5, .row T1 (.lst (encS sts)) true), (6, .row T2 (.lst (encS mos)) true)] (.bool true) [] := by
  · by_cases h0 : (((sts.length : Nat)) : Int) > (100)
    · exact Ctr.of_goodS (d := (ds newS [iv (sts.length : Nat)] [.v (lineV 1 []), olv 3 [], .v (.slice (some ⟨5, 0, none⟩) sts.length cp), .v (.slice (some ⟨6, 0, none⟩) mos.length cq)] [encL [], encS sts, encS mos])) [] (c0 := 7) (A0 := hC0 T1 T2) (args0 := [ch 2, ch 3]) (by kernel_rfl) (by kernel_rfl) (by kernel_rfl) (@goodS_fin (ds newS [iv (sts.length : Nat)] [.v (lineV 1 []), olv 3 [], .v (.slice (some ⟨5, 0, none⟩) sts.length cp), .v (.slice (some ⟨6, 0, none⟩) mos.length cq)] [encL [], encS sts, encS mos]) Try.prog mixed ⟨[(.len 22 (ch 2), sv 40), kt .gtr 3 (sv 40) (iv 100)], [], []⟩ [(12, [eKn 7])] ⟨asLen u22 rfl (by kernel_rfl), qT ((((sts.length : Nat)) : Int) > 100), trivial⟩ trivial trivial ⟨oe known_ctr, trivial⟩ 100 7 8 _ _ _ _ _ [] [] (by kernel_rfl) (by kernel_rfl))
    · by_cases h1 : (((mos.length : Nat)) : Int) > (100)
      · exact Ctr.of_goodS (d := (ds newS [iv (sts.length : Nat), iv (mos.length : Nat)] [.v (lineV 1 []), olv 3 [], .v (.slice (some ⟨5, 0, none⟩) sts.length cp), .v (.slice (some ⟨6, 0, none⟩) mos.length cq)] [encL [], encS sts, encS mos])) [] (c0 := 7) (A0 := hC0 T1 T2) (args0 := [ch 2, ch 3]) (by kernel_rfl) (by kernel_rfl) (by kernel_rfl) (@goodS_fin (ds newS [iv (sts.length : Nat), iv (mos.length : Nat)] [.v (lineV 1 []), olv 3 [], .v (.slice (some ⟨5, 0, none⟩) sts.length cp), .v (.slice (some ⟨6, 0, none⟩) mos.length cq)] [encL [], encS sts, encS mos]) Try.prog mixed ⟨[(.len 22 (ch 2), sv 40), kf .gtr 3 (sv 40) (iv 100), (.len 22 (ch 3), sv 41), kt .gtr 3 (sv 41) (iv 100)], [], []⟩ [(12, [eKn 7])] ⟨asLen u22 rfl (by kernel_rfl), qF ((((sts.length : Nat)) : Int) > 100), asLen u22 rfl (by kernel_rfl), qT ((((mos.length : Nat)) : Int) > 100), trivial⟩ trivial trivial ⟨oe known_ctr, trivial⟩ 100 7 8 _ _ _ _ _ [] [] (by kernel_rfl) (by kernel_rfl))
      · refine Ctr.of_goodS (d := (ds newS [iv (sts.length : Nat), iv (mos.length : Nat)] [.v (lineV 1 []), olv 3 [], .v (.slice (some ⟨5, 0, none⟩) sts.length cp), .v (.slice (some ⟨6, 0, none⟩) mos.length cq)] [encL [], encS sts, encS mos])) [] (c0 := 7) (A0 := hC0 T1 T2) (args0 := [ch 2, ch 3]) (by kernel_rfl) (by kernel_rfl) (by kernel_rfl) ?_
        exact @goodS_seg (ds newS [iv (sts.length : Nat), iv (mos.length : Nat)] [.v (lineV 1 []), olv 3 [], .v (.slice (some ⟨5, 0, none⟩) sts.length cp), .v (.slice (some ⟨6, 0, none⟩) mos.length cq)] [encL [], encS sts, encS mos]) (dC1 newS true true sts mos cp cq 0) Try.prog mixed ⟨[(.len 22 (ch 2), sv 40), kf .gtr 3 (sv 40) (iv 100), (.len 22 (ch 3), sv 41), kf .gtr 3 (sv 41) (iv 100)], [], []⟩ [(13, [eNewP 7]), (14, [eNewR 9])] ⟨asLen u22 rfl (by kernel_rfl), qF ((((sts.length : Nat)) : Int) > 100), asLen u22 rfl (by kernel_rfl), qF ((((mos.length : Nat)) : Int) > 100), trivial⟩ trivial trivial ⟨oe new_ctr, oe newR_ctr, trivial⟩ 100 15 8 _ _ _ _ _ [(7, 0), (8, 1), (9, 2), (10, 3), (5, 5), (6, 6)] [] _ _ _ _ _ _ (by kernel_rfl) (by kernel_rfl) (by kernel_rfl) (hg (by omega) (by omega))
theorem copies_ctrsn (hg : sts.length ≤ 100 → mos.length ≤ 100 → GC T1 T2 sts mos (dC1 newS true false sts mos cp cq 0) (xC1 T1 T2)) : Ctr Try.prog 8 [.slice (some ⟨5, 0, none⟩) sts.length cp, mSl 6 mos.length INF] [(5, .row T1 (.lst (encS sts)) true), (6, .row T2 (.lst (encS mos)) true)] (.bool true) [] := by
  · by_cases h0 : (((sts.length : Nat)) : Int) > (100)
    · exact Ctr.of_goodS (d := (ds newS [iv (sts.length : Nat)] [.v (lineV 1 []), olv 3 [], .v (.slice (some ⟨5, 0, none⟩) sts.length cp), ost 6 mos] [encL [], encS sts, encS mos])) [] (c0 := 7) (A0 := hC0 T1 T2) (args0 := [ch 2, ch 3]) (by kernel_rfl) (by kernel_rfl) (by kernel_rfl) (@goodS_fin (ds newS [iv (sts.length : Nat)] [.v (lineV 1 []), olv 3 [], .v (.slice (some ⟨5, 0, none⟩) sts.length cp), ost 6 mos] [encL [], encS sts, encS mos]) Try.prog mixed ⟨[(.len 22 (ch 2), sv 40), kt .gtr 3 (sv 40) (iv 100)], [], []⟩ [(12, [eKn 7])] ⟨asLen u22 rfl (by kernel_rfl), qT ((((sts.length : Nat)) : Int) > 100), trivial⟩ trivial trivial ⟨oe known_ctr, trivial⟩ 100 7 8 _ _ _ _ _ [] [] (by kernel_rfl) (by kernel_rfl))
    · by_cases h1 : (((mos.length : Nat)) : Int) > (100)
      · exact Ctr.of_goodS (d := (ds newS [iv (sts.length : Nat), iv (mos.length : Nat)] [.v (lineV 1 []), olv 3 [], .v (.slice (some ⟨5, 0, none⟩) sts.length cp), ost 6 mos] [encL [], encS sts, encS mos])) [] (c0 := 7) (A0 := hC0 T1 T2) (args0 := [ch 2, ch 3]) (by kernel_rfl) (by kernel_rfl) (by kernel_rfl) (@goodS_fin (ds newS [iv (sts.length : Nat), iv (mos.length : Nat)] [.v (lineV 1 []), olv 3 [], .v (.slice (some ⟨5, 0, none⟩) sts.length cp), ost 6 mos] [encL [], encS sts, encS mos]) Try.prog mixed ⟨[(.len 22 (ch 2), sv 40), kf .gtr 3 (sv 40) (iv 100), (.len 22 (ch 3), sv 41), kt .gtr 3 (sv 41) (iv 100)], [], []⟩ [(12, [eKn 7])] ⟨asLen u22 rfl (by kernel_rfl), qF ((((sts.length : Nat)) : Int) > 100), asLen u22 rfl (by kernel_rfl), qT ((((mos.length : Nat)) : Int) > 100), trivial⟩ trivial trivial ⟨oe known_ctr, trivial⟩ 100 7 8 _ _ _ _ _ [] [] (by kernel_rfl) (by kernel_rfl))
      · refine Ctr.of_goodS (d := (ds newS [iv (sts.length : Nat), iv (mos.length : Nat)] [.v (lineV 1 []), olv 3 [], .v (.slice (some ⟨5, 0, none⟩) sts.length cp), ost 6 mos] [encL [], encS sts, encS mos])) [] (c0 := 7) (A0 := hC0 T1 T2) (args0 := [ch 2, ch 3]) (by kernel_rfl) (by kernel_rfl) (by kernel_rfl) ?_
        exact @goodS_seg (ds newS [iv (sts.length : Nat), iv (mos.length : Nat)] [.v (lineV 1 []), olv 3 [], .v (.slice (some ⟨5, 0, none⟩) sts.length cp), ost 6 mos] [encL [], encS sts, encS mos]) (dC1 newS true false sts mos cp cq 0) Try.prog mixed ⟨[(.len 22 (ch 2), sv 40), kf .gtr 3 (sv 40) (iv 100), (.len 22 (ch 3), sv 41), kf .gtr 3 (sv 41) (iv 100)], [], []⟩ [(13, [eNewP 7]), (14, [eNewR 9])] ⟨asLen u22 rfl (by kernel_rfl), qF ((((sts.length : Nat)) : Int) > 100), asLen u22 rfl (by kernel_rfl), qF ((((mos.length : Nat)) : Int) > 100), trivial⟩ trivial trivial ⟨oe new_ctr, oe newR_ctr, trivial⟩ 100 15 8 _ _ _ _ _ [(7, 0), (8, 1), (9, 2), (10, 3), (5, 5), (6, 6)] [] _ _ _ _ _ _ (by kernel_rfl) (by kernel_rfl) (by kernel_rfl) (hg (by omega) (by omega))
theorem copies_ctrns (hg : sts.length ≤ 100 → mos.length ≤ 100 → GC T1 T2 sts mos (dC1 newS false true sts mos cp cq 0) (xC1 T1 T2)) : Ctr Try.prog 8 [mSl 5 sts.length INF, .slice (some ⟨6, 0, none⟩) mos.length cq] [(5, .row T1 (.lst (encS sts)) true), (6, .row T2 (.lst (encS mos)) true)] (.bool true) [] := by
  · by_cases h0 : (((sts.length : Nat)) : Int) > (100)
    · exact Ctr.of_goodS (d := (ds newS [iv (sts.length : Nat)] [.v (lineV 1 []), olv 3 [], ost 5 sts, .v (.slice (some ⟨6, 0, none⟩) mos.length cq)] [encL [], encS sts, encS mos])) [] (c0 := 7) (A0 := hC0 T1 T2) (args0 := [ch 2, ch 3]) (by kernel_rfl) (by kernel_rfl) (by kernel_rfl) (@goodS_fin (ds newS [iv (sts.length : Nat)] [.v (lineV 1 []), olv 3 [], ost 5 sts, .v (.slice (some ⟨6, 0, none⟩) mos.length cq)] [encL [], encS sts, encS mos]) Try.prog mixed ⟨[(.len 22 (ch 2), sv 40), kt .gtr 3 (sv 40) (iv 100)], [], []⟩ [(12, [eKn 7])] ⟨asLen u22 rfl (by kernel_rfl), qT ((((sts.length : Nat)) : Int) > 100), trivial⟩ trivial trivial ⟨oe known_ctr, trivial⟩ 100 7 8 _ _ _ _ _ [] [] (by kernel_rfl) (by kernel_rfl))
    · by_cases h1 : (((mos.length : Nat)) : Int) > (100)
      · exact Ctr.of_goodS (d := (ds newS [iv (sts.length : Nat), iv (mos.length : Nat)] [.v (lineV 1 []), olv 3 [], ost 5 sts, .v (.slice (some ⟨6, 0, none⟩) mos.length cq)] [encL [], encS sts, encS mos])) [] (c0 := 7) (A0 := hC0 T1 T2) (args0 := [ch 2, ch 3]) (by kernel_rfl) (by kernel_rfl) (by kernel_rfl) (@goodS_fin (ds newS [iv (sts.length : Nat), iv (mos.length : Nat)] [.v (lineV 1 []), olv 3 [], ost 5 sts, .v (.slice (some ⟨6, 0, none⟩) mos.length cq)] [encL [], encS sts, encS mos]) Try.prog mixed ⟨[(.len 22 (ch 2), sv 40), kf .gtr 3 (sv 40) (iv 100), (.len 22 (ch 3), sv 41), kt .gtr 3 (sv 41) (iv 100)], [], []⟩ [(12, [eKn 7])] ⟨asLen u22 rfl (by kernel_rfl), qF ((((sts.length : Nat)) : Int) > 100), asLen u22 rfl (by kernel_rfl), qT ((((mos.length : Nat)) : Int) > 100), trivial⟩ trivial trivial ⟨oe known_ctr, trivial⟩ 100 7 8 _ _ _ _ _ [] [] (by kernel_rfl) (by kernel_rfl))
      · refine Ctr.of_goodS (d := (ds newS [iv (sts.length : Nat), iv (mos.length : Nat)] [.v (lineV 1 []), olv 3 [], ost 5 sts, .v (.slice (some ⟨6, 0, none⟩) mos.length cq)] [encL [], encS sts, encS mos])) [] (c0 := 7) (A0 := hC0 T1 T2) (args0 := [ch 2, ch 3]) (by kernel_rfl) (by kernel_rfl) (by kernel_rfl) ?_
        exact @goodS_seg (ds newS [iv (sts.length : Nat), iv (mos.length : Nat)] [.v (lineV 1 []), olv 3 [], ost 5 sts, .v (.slice (some ⟨6, 0, none⟩) mos.length cq)] [encL [], encS sts, encS mos]) (dC1 newS false true sts mos cp cq 0) Try.prog mixed ⟨[(.len 22 (ch 2), sv 40), kf .gtr 3 (sv 40) (iv 100), (.len 22 (ch 3), sv 41), kf .gtr 3 (sv 41) (iv 100)], [], []⟩ [(13, [eNewP 7]), (14, [eNewR 9])] ⟨asLen u22 rfl (by kernel_rfl), qF ((((sts.length : Nat)) : Int) > 100), asLen u22 rfl (by kernel_rfl), qF ((((mos.length : Nat)) : Int) > 100), trivial⟩ trivial trivial ⟨oe new_ctr, oe newR_ctr, trivial⟩ 100 15 8 _ _ _ _ _ [(7, 0), (8, 1), (9, 2), (10, 3), (5, 5), (6, 6)] [] _ _ _ _ _ _ (by kernel_rfl) (by kernel_rfl) (by kernel_rfl) (hg (by omega) (by omega))
theorem copies_ctrnn (hg : sts.length ≤ 100 → mos.length ≤ 100 → GC T1 T2 sts mos (dC1 newS false false sts mos cp cq 0) (xC1 T1 T2)) : Ctr Try.prog 8 [mSl 5 sts.length INF, mSl 6 mos.length INF] [(5, .row T1 (.lst (encS sts)) true), (6, .row T2 (.lst (encS mos)) true)] (.bool true) [] := by
  · by_cases h0 : (((sts.length : Nat)) : Int) > (100)
    · exact Ctr.of_goodS (d := (ds newS [iv (sts.length : Nat)] [.v (lineV 1 []), olv 3 [], ost 5 sts, ost 6 mos] [encL [], encS sts, encS mos])) [] (c0 := 7) (A0 := hC0 T1 T2) (args0 := [ch 2, ch 3]) (by kernel_rfl) (by kernel_rfl) (by kernel_rfl) (@goodS_fin (ds newS [iv (sts.length : Nat)] [.v (lineV 1 []), olv 3 [], ost 5 sts, ost 6 mos] [encL [], encS sts, encS mos]) Try.prog mixed ⟨[(.len 22 (ch 2), sv 40), kt .gtr 3 (sv 40) (iv 100)], [], []⟩ [(12, [eKn 7])] ⟨asLen u22 rfl (by kernel_rfl), qT ((((sts.length : Nat)) : Int) > 100), trivial⟩ trivial trivial ⟨oe known_ctr, trivial⟩ 100 7 8 _ _ _ _ _ [] [] (by kernel_rfl) (by kernel_rfl))
    · by_cases h1 : (((mos.length : Nat)) : Int) > (100)
      · exact Ctr.of_goodS (d := (ds newS [iv (sts.length : Nat), iv (mos.length : Nat)] [.v (lineV 1 []), olv 3 [], ost 5 sts, ost 6 mos] [encL [], encS sts, encS mos])) [] (c0 := 7) (A0 := hC0 T1 T2) (args0 := [ch 2, ch 3]) (by kernel_rfl) (by kernel_rfl) (by kernel_rfl) (@goodS_fin (ds newS [iv (sts.length : Nat), iv (mos.length : Nat)] [.v (lineV 1 []), olv 3 [], ost 5 sts, ost 6 mos] [encL [], encS sts, encS mos]) Try.prog mixed ⟨[(.len 22 (ch 2), sv 40), kf .gtr 3 (sv 40) (iv 100), (.len 22 (ch 3), sv 41), kt .gtr 3 (sv 41) (iv 100)], [], []⟩ [(12, [eKn 7])] ⟨asLen u22 rfl (by kernel_rfl), qF ((((sts.length : Nat)) : Int) > 100), asLen u22 rfl (by kernel_rfl), qT ((((mos.length : Nat)) : Int) > 100), trivial⟩ trivial trivial ⟨oe known_ctr, trivial⟩ 100 7 8 _ _ _ _ _ [] [] (by kernel_rfl) (by kernel_rfl))
      · refine Ctr.of_goodS (d := (ds newS [iv (sts.length : Nat), iv (mos.length : Nat)] [.v (lineV 1 []), olv 3 [], ost 5 sts, ost 6 mos] [encL [], encS sts, encS mos])) [] (c0 := 7) (A0 := hC0 T1 T2) (args0 := [ch 2, ch 3]) (by kernel_rfl) (by kernel_rfl) (by kernel_rfl) ?_
        exact @goodS_seg (ds newS [iv (sts.length : Nat), iv (mos.length : Nat)] [.v (lineV 1 []), olv 3 [], ost 5 sts, ost 6 mos] [encL [], encS sts, encS mos]) (dC1 newS false false sts mos cp cq 0) Try.prog mixed ⟨[(.len 22 (ch 2), sv 40), kf .gtr 3 (sv 40) (iv 100), (.len 22 (ch 3), sv 41), kf .gtr 3 (sv 41) (iv 100)], [], []⟩ [(13, [eNewP 7]), (14, [eNewR 9])] ⟨asLen u22 rfl (by kernel_rfl), qF ((((sts.length : Nat)) : Int) > 100), asLen u22 rfl (by kernel_rfl), qF ((((mos.length : Nat)) : Int) > 100), trivial⟩ trivial trivial ⟨oe new_ctr, oe newR_ctr, trivial⟩ 100 15 8 _ _ _ _ _ [(7, 0), (8, 1), (9, 2), (10, 3), (5, 5), (6, 6)] [] _ _ _ _ _ _ (by kernel_rfl) (by kernel_rfl) (by kernel_rfl) (hg (by omega) (by omega))
end
theorem copies_nn : Ctr Try.prog 8 [.slice none 0 0, .slice none 0 0] [(5, .dead), (6, .dead)] (.bool true) [(5, .dead), (6, .dead)] :=
  Ctr.path mixed (dr newS [] [] []) ⟨[], [], []⟩ [(12, [eKn 30])] trivial trivial trivial ⟨oe known_ctr, trivial⟩
    (N := 400) (c0 := 7) (A0 := [(5, .dead), (6, .dead)]) (args0 := [.slice none 0 0, .slice none 0 0]) (τ := [(5, 5), (6, 6)]) (ros := []) (by kernel_rfl) (by kernel_rfl) (by kernel_rfl)
theorem copies_nz : Ctr Try.prog 8 [.slice none 0 0, .slice (some ⟨6, 0, none⟩) 0 0] [(5, .dead), (6, .dead)] (.bool true) [(5, .dead), (6, .dead)] :=
  Ctr.path mixed (dr newS [] [] []) ⟨[], [], []⟩ [(12, [eKn 30])] trivial trivial trivial ⟨oe known_ctr, trivial⟩
    (N := 400) (c0 := 7) (A0 := [(5, .dead), (6, .dead)]) (args0 := [.slice none 0 0, .slice (some ⟨6, 0, none⟩) 0 0]) (τ := [(5, 5), (6, 6)]) (ros := []) (by kernel_rfl) (by kernel_rfl) (by kernel_rfl)
theorem copies_zn : Ctr Try.prog 8 [.slice (some ⟨5, 0, none⟩) 0 0, .slice none 0 0] [(5, .dead), (6, .dead)] (.bool true) [(5, .dead), (6, .dead)] :=
  Ctr.path mixed (dr newS [] [] []) ⟨[], [], []⟩ [(12, [eKn 30])] trivial trivial trivial ⟨oe known_ctr, trivial⟩
    (N := 400) (c0 := 7) (A0 := [(5, .dead), (6, .dead)]) (args0 := [.slice (some ⟨5, 0, none⟩) 0 0, .slice none 0 0]) (τ := [(5, 5), (6, 6)]) (ros := []) (by kernel_rfl) (by kernel_rfl) (by kernel_rfl)
theorem copies_zz : Ctr Try.prog 8 [.slice (some ⟨5, 0, none⟩) 0 0, .slice (some ⟨6, 0, none⟩) 0 0] [(5, .dead), (6, .dead)] (.bool true) [(5, .dead), (6, .dead)] :=
  Ctr.path mixed (dr newS [] [] []) ⟨[], [], []⟩ [(12, [eKn 30])] trivial trivial trivial ⟨oe known_ctr, trivial⟩
    (N := 400) (c0 := 7) (A0 := [(5, .dead), (6, .dead)]) (args0 := [.slice (some ⟨5, 0, none⟩) 0 0, .slice (some ⟨6, 0, none⟩) 0 0]) (τ := [(5, 5), (6, 6)]) (ros := []) (by kernel_rfl) (by kernel_rfl) (by kernel_rfl)
end Go.Proofs.Ytjpgnjaobfbojaa
namespace Go.Proofs.Ytjpgnjaobfbojaa
open Go.Sx
def SlS (w : World) (v : Value) : Prop := v = .slice none 0 0 ∨ ∃ (a : Addr) (len cap : Nat), v = .slice (some a) len cap ∧ len ≤ cap ∧ ∀ i, i < cap → ∃ x : Stp, ∀ j u, (encS [x])[j]? = some u → w.cell? (a.add (i * 5 + j)) = some u
def SlZ (v : Value) : Prop := v = .slice none 0 0 ∨ ∃ a : Addr, v = .slice (some a) 0 0
def valS2 (i : Nat) (l : List Stp) (cp : Nat) : Bool → Value
  | true => .slice (some ⟨i, 0, none⟩) l.length cp
  | false => mSl i l.length INF
def Rep (w : World) (i : Nat) (v : Value) (e : EI) (T : TypeId) (l : List Stp) (b : Bool) (cp : Nat) : Prop :=
  (l = [] ∨ b = true) ∧ (∃ cells fz, w.heap[e.blk]? = some (Obj.cells cells T fz) ∧ ∀ k u, (encS l)[k]? = some u → cells[e.off + k]? = some u) ∧ ∀ E : Env, E i = some e → VR0 E (valS2 i l cp b) v
theorem sl_cases {w : World} {v : Value} (h : SlS w v) : SlZ v ∨ ∃ (a : Addr) (len cap : Nat) (x : Stp), v = .slice (some a) len cap ∧ len ≤ cap ∧ 0 < cap ∧ (∀ i, i < cap → ∃ x : Stp, ∀ j u, (encS [x])[j]? = some u → w.cell? (a.add (i * 5 + j)) = some u) ∧ w.cell? (a.add 0) = some (.int .i64 x.k) := by
  rcases h with rfl | ⟨a, len, cap, rfl, hl, hc⟩
  · exact .inl (.inl rfl)
  · by_cases h0 : cap = 0
    · subst h0
      have : len = 0 := by omega
      subst this
      exact .inl (.inr ⟨a, rfl⟩)
    · obtain ⟨x, hx⟩ := hc 0 (by omega)
      exact .inr ⟨a, len, cap, x, rfl, hl, by omega, hc, hx 0 _ rfl⟩
theorem add_zero (a : Addr) : a.add 0 = a := by cases a; rfl
theorem rep_big {w : World} {a : Addr} {len cap : Nat} {x : Stp} (i : Nat) (hl : len ≤ cap) (hc : ∀ i, i < cap → ∃ x : Stp, ∀ j u, (encS [x])[j]? = some u → w.cell? (a.add (i * 5 + j)) = some u) (h0 : w.cell? (a.add 0) = some (.int .i64 x.k)) : ∃ e T l b cp, Rep w i (.slice (some a) len cap) e T l b cp := by
  rw [add_zero] at h0
  obtain ⟨hs, cells, T, fz, hb, _⟩ := cell_at h0
  obtain ⟨l, hn, hg⟩ := steps_of (f := fun k => w.cell? (a.add k)) len fun i hi => hc i (by omega)
  subst hn
  refine ⟨⟨a.block, a.off, cap⟩, T, l, true, if cap < HALF then cap else INF, .inr rfl, ⟨cells, fz, hb, fun k u hk => ?_⟩, fun E hE => ?_⟩
  · have h1 : w.cell? (a.add k) = some u := hg k u hk
    rw [add_none hs] at h1
    obtain ⟨_, cells2, T2, fz2, hb2, h2⟩ := cell_at h1
    simp only at hb2 h2
    rw [hb] at hb2
    cases hb2
    exact h2
  · have hcap := fit_cap ⟨a.block, a.off, cap⟩ (cap := cap) rfl
    have := @VR.sl den0 E i 0 l.length (if cap < HALF then cap else INF) ⟨a.block, a.off, cap⟩ a hE (by rw [hcap]; exact hl) (.inl (by cases a; simp only at hs; subst hs; rfl))
    rw [hcap] at this
    exact this
theorem rep_zero {w : World} {v : Value} (i : Nat) (h : SlZ v) {b : Nat} {cells : Array Value} {T : TypeId} {fz : Nat × Nat} (hb : w.heap[b]? = some (.cells cells T fz)) : ∃ e T l b cp, Rep w i v e T l b cp := by
  rcases h with rfl | ⟨a, rfl⟩
  · refine ⟨⟨b, 0, 0⟩, T, [], false, 0, .inl rfl, ⟨cells, fz, hb, fun k u hk => by simp [encS] at hk⟩, fun E hE => ?_⟩
    exact @VR.nilS den0 _
  · refine ⟨⟨b, 0, 0⟩, T, [], true, 0, .inl rfl, ⟨cells, fz, hb, fun k u hk => by simp [encS] at hk⟩, fun E hE => ?_⟩
    have hcap : capOf ⟨b, 0, 0⟩ 0 = 0 := by unfold capOf; rw [if_pos (by decide +kernel)]
    have := @VR.sl den0 E i 0 0 0 ⟨b, 0, 0⟩ a hE (Nat.zero_le _) (.inr hcap)
    rw [hcap] at this
    exact this
theorem call_rep {w : World} {v1 v2 : Value} {e1 e2 : EI} {T1 T2 : TypeId} {l1 l2 : List Stp} {b1 b2 : Bool} {c1 c2 : Nat} {g : FuncId} (h1 : Rep w 5 v1 e1 T1 l1 b1 c1) (h2 : Rep w 6 v2 e2 T2 l2 b2 c2)
    (hc : Ctr Try.prog g [valS2 5 l1 c1 b1, valS2 6 l2 c2 b2] [(5, .row T1 (.lst (encS l1)) true), (6, .row T2 (.lst (encS l2)) true)] (.bool true) []) : Calls Try.prog g #[v1, v2] w fun e w' => e = .returned (.bool true) ∧ Go.RowKit.Below w.heap.size w w' := by
  obtain ⟨_, ⟨cells1, fz1, hb1, hg1⟩, hv1⟩ := h1
  obtain ⟨_, ⟨cells2, fz2, hb2, hg2⟩, hv2⟩ := h2
  let E : Env := fun i => if i = 5 then some e1 else if i = 6 then some e2 else none
  let A : HL := [(5, .row T1 (.lst (encS l1)) true), (6, .row T2 (.lst (encS l2)) true)]
  have hE : ∀ {i : Nat} {e : EI}, E i = some e → i = 5 ∨ i = 6 := fun {i e} h => by
    simp only [E] at h
    split at h
    · rename_i hi; exact .inl hi
    · split at h
      · rename_i hi; exact .inr hi
      · cases h
  have hget : ∀ {i : Nat} {o : AObj}, (ofL A).get i = some o → (i = 5 ∧ o = .row T1 (.lst (encS l1)) true) ∨ (i = 6 ∧ o = .row T2 (.lst (encS l2)) true) := fun {i o} h => by
    rw [get_ofL] at h
    have := lkL_mem h
    simp only [A, List.mem_cons, List.not_mem_nil, or_false, Prod.mk.injEq] at this
    exact this
  have pl : ∀ {v : Value} {l : List Stp} {k : Nat}, (encS l)[k]? = some v → plainS v = true := fun {v l k} hk => List.all_eq_true.1 (encS_plain l) v (List.mem_of_getElem? hk)
  have hrow : HR0 Try.prog w (fun _ => False) E (ofL A) w := by
    refine @HR.mk den0 _ _ _ _ _ _ ⟨rfl, rfl, rfl, Nat.le_refl _, fun _ _ _ => rfl⟩ (fun i e h => ?_) (fun i o h => ?_) (fun i j o p x y hne hi hj hlo hlp hw hx hy => ?_) (fun i o e hi hw _ => ?_)
    · rcases hE h with rfl | rfl <;> (rw [get_ofL]; exact fun h => by cases h)
    · rcases hget h with ⟨rfl, rfl⟩ | ⟨rfl, rfl⟩
      · refine ⟨e1, cells1, rfl, ⟨fz1, hb1⟩, nofun, fun k v hk => ?_⟩
        rw [get_lst] at hk
        have hpv := pl hk
        exact ⟨v, hg1 k v hk, @VR.cleanS den0 _ _ (by cases v <;> first | rfl | (simp [plainS] at hpv)), by cases v <;> first | rfl | (simp [plainS] at hpv)⟩
      · refine ⟨e2, cells2, rfl, ⟨fz2, hb2⟩, nofun, fun k v hk => ?_⟩
        rw [get_lst] at hk
        have hpv := pl hk
        exact ⟨v, hg2 k v hk, @VR.cleanS den0 _ _ (by cases v <;> first | rfl | (simp [plainS] at hpv)), by cases v <;> first | rfl | (simp [plainS] at hpv)⟩
    · exfalso
      rcases hget hi with ⟨rfl, rfl⟩ | ⟨rfl, rfl⟩ <;> rcases hget hj with ⟨rfl, rfl⟩ | ⟨rfl, rfl⟩ <;> first | exact absurd rfl hne | (rcases hw with hw | hw <;> cases hw) | cases hw
    · rcases hget hi with ⟨_, rfl⟩ | ⟨_, rfl⟩ <;> cases hw
  have hargs : LR0 E [valS2 5 l1 c1 b1, valS2 6 l2 c2 b2] [v1, v2] := by
    refine ⟨rfl, fun k x y hx hy => ?_⟩
    match k with
    | 0 =>
      simp only [List.getElem?_cons_zero, Option.some.injEq] at hx hy
      subst hx hy
      exact hv1 E rfl
    | 1 =>
      simp only [List.getElem?_cons_succ, List.getElem?_cons_zero, Option.some.injEq] at hx hy
      subst hx hy
      exact hv2 E rfl
    | k + 2 => simp at hx
  have := hc.2 w (fun _ => False) E [v1, v2] hrow hargs Fence.wide 0 ⟨fun _ => trivial, rfl⟩
  exact (callsIn_wide.1 this).mono fun e w' ⟨v', E', h1, _, h3, h4⟩ => by
    cases h4
    exact ⟨h1, (@HR.keeps den0 _ _ _ _ _ _ h3).below⟩
def zS (i : Nat) : Bool → Value
  | true => .slice (some ⟨i, 0, none⟩) 0 0
  | false => .slice none 0 0
theorem call_zz {w : World} {v1 v2 : Value} {b1 b2 : Bool} {g : FuncId} (h1 : ∀ E : Env, E 5 = some ⟨0, 0, 0⟩ → VR0 E (zS 5 b1) v1) (h2 : ∀ E : Env, E 6 = some ⟨0, 0, 0⟩ → VR0 E (zS 6 b2) v2)
    (hc : Ctr Try.prog g [zS 5 b1, zS 6 b2] [(5, .dead), (6, .dead)] (.bool true) [(5, .dead), (6, .dead)]) : Calls Try.prog g #[v1, v2] w fun e w' => e = .returned (.bool true) ∧ Go.RowKit.Below w.heap.size w w' := by
  let E : Env := fun i => if i = 5 then some ⟨0, 0, 0⟩ else if i = 6 then some ⟨0, 0, 0⟩ else none
  have hget : ∀ {i : Nat} {o : AObj}, (ofL [(5, .dead), (6, .dead)]).get i = some o → (i = 5 ∨ i = 6) ∧ o = .dead := fun {i o} h => by
    rw [get_ofL] at h
    have := lkL_mem h
    simp only [List.mem_cons, List.not_mem_nil, or_false, Prod.mk.injEq] at this
    rcases this with ⟨a, b⟩ | ⟨a, b⟩
    · exact ⟨.inl a, b⟩
    · exact ⟨.inr a, b⟩
  have hrow : HR0 Try.prog w (fun _ => False) E (ofL [(5, .dead), (6, .dead)]) w := by
    refine @HR.mk den0 _ _ _ _ _ _ ⟨rfl, rfl, rfl, Nat.le_refl _, fun _ _ _ => rfl⟩ (fun i e h => ?_) (fun i o h => ?_) (fun i j o p x y hne hi hj hlo hlp hw hx hy => ?_) (fun i o e hi hw _ => ?_)
    · simp only [E] at h
      split at h
      · rename_i hi; subst hi; rw [get_ofL]; exact fun h => by cases h
      · split at h
        · rename_i hi; subst hi; rw [get_ofL]; exact fun h => by cases h
        · cases h
    · obtain ⟨_, rfl⟩ := hget h; trivial
    · obtain ⟨_, rfl⟩ := hget hi; cases hlo
    · obtain ⟨_, rfl⟩ := hget hi; cases hw
  have hargs : LR0 E [zS 5 b1, zS 6 b2] [v1, v2] := by
    refine ⟨rfl, fun k x y hx hy => ?_⟩
    match k with
    | 0 =>
      simp only [List.getElem?_cons_zero, Option.some.injEq] at hx hy
      subst hx hy
      exact h1 E rfl
    | 1 =>
      simp only [List.getElem?_cons_succ, List.getElem?_cons_zero, Option.some.injEq] at hx hy
      subst hx hy
      exact h2 E rfl
    | k + 2 => simp at hx
  have := hc.2 w (fun _ => False) E [v1, v2] hrow hargs Fence.wide 0 ⟨fun _ => trivial, rfl⟩
  exact (callsIn_wide.1 this).mono fun e w' ⟨v', E', h1, _, h3, h4⟩ => by
    cases h4
    exact ⟨h1, (@HR.keeps den0 _ _ _ _ _ _ h3).below⟩
theorem zero_of {v : Value} (h : SlZ v) (i : Nat) : ∃ b, ∀ E : Env, E i = some ⟨0, 0, 0⟩ → VR0 E (zS i b) v := by
  rcases h with rfl | ⟨a, rfl⟩
  · exact ⟨false, fun E _ => @VR.nilS den0 _⟩
  · refine ⟨true, fun E hE => ?_⟩
    have hcap : capOf ⟨0, 0, 0⟩ 0 = 0 := by decide +kernel
    have := @VR.sl den0 E i 0 0 0 ⟨0, 0, 0⟩ a hE (Nat.zero_le _) (.inr hcap)
    rw [hcap] at this
    exact this
theorem law2 {g : FuncId} (hz : ∀ b1 b2, Ctr Try.prog g [zS 5 b1, zS 6 b2] [(5, .dead), (6, .dead)] (.bool true) [(5, .dead), (6, .dead)])
    (hall : ∀ (T1 T2 : TypeId) (l1 l2 : List Stp) (c1 c2 : Nat) (b1 b2 : Bool), (l1 = [] ∨ b1 = true) → (l2 = [] ∨ b2 = true) → Ctr Try.prog g [valS2 5 l1 c1 b1, valS2 6 l2 c2 b2] [(5, .row T1 (.lst (encS l1)) true), (6, .row T2 (.lst (encS l2)) true)] (.bool true) [])
    {w : World} {v1 v2 : Value} (h1 : SlS w v1) (h2 : SlS w v2) : Calls Try.prog g #[v1, v2] w fun e w' => e = .returned (.bool true) ∧ Go.RowKit.Below w.heap.size w w' := by
  have fin : (∃ e T l b cp, Rep w 5 v1 e T l b cp) → (∃ e T l b cp, Rep w 6 v2 e T l b cp) → Calls Try.prog g #[v1, v2] w fun e w' => e = .returned (.bool true) ∧ Go.RowKit.Below w.heap.size w w' := fun ⟨_, _, _, _, _, r1⟩ ⟨_, _, _, _, _, r2⟩ => call_rep r1 r2 (hall _ _ _ _ _ _ _ _ r1.1 r2.1)
  rcases sl_cases h1 with z1 | ⟨a1, len1, cap1, x1, rfl, l1, _, k1, q1⟩ <;> rcases sl_cases h2 with z2 | ⟨a2, len2, cap2, x2, rfl, l2, _, k2, q2⟩
  · obtain ⟨b1, r1⟩ := zero_of z1 5
    obtain ⟨b2, r2⟩ := zero_of z2 6
    exact call_zz r1 r2 (hz b1 b2)
  · obtain ⟨_, cells, T, fz, hb, _⟩ := cell_at q2
    exact fin (rep_zero 5 z1 hb) (rep_big 6 l2 k2 q2)
  · obtain ⟨_, cells, T, fz, hb, _⟩ := cell_at q1
    exact fin (rep_big 5 l1 k1 q1) (rep_zero 6 z2 hb)
  · exact fin (rep_big 5 l1 k1 q1) (rep_big 6 l2 k2 q2)
theorem copies_zero (b1 b2 : Bool) : Ctr Try.prog 8 [zS 5 b1, zS 6 b2] [(5, .dead), (6, .dead)] (.bool true) [(5, .dead), (6, .dead)] := by
  cases b1 <;> cases b2
  · exact copies_nn
  · exact copies_nz
  · exact copies_zn
  · exact copies_zz
theorem copies_ctr (T1 T2 : TypeId) (sts mos : List Stp) (cp cq : Nat) (b1 b2 : Bool) (h1 : sts = [] ∨ b1 = true) (h2 : mos = [] ∨ b2 = true) : Ctr Try.prog 8 [valS2 5 sts cp b1, valS2 6 mos cq b2] [(5, .row T1 (.lst (encS sts)) true), (6, .row T2 (.lst (encS mos)) true)] (.bool true) [] := by
  have hg := copies_go0 (sts := sts) (mos := mos) (cp := cp) (cq := cq) (T1 := T1) (T2 := T2) h1 h2
  cases b1 <;> cases b2
  · exact copies_ctrnn hg
  · exact copies_ctrns hg
  · exact copies_ctrsn hg
  · exact copies_ctrss hg
theorem copies_law {w : World} {v1 v2 : Value} (h1 : SlS w v1) (h2 : SlS w v2) : Calls Try.prog 8 #[v1, v2] w fun e w' => e = .returned (.bool true) ∧ Go.RowKit.Below w.heap.size w w' := law2 copies_zero copies_ctr h1 h2
end Go.Proofs.Ytjpgnjaobfbojaa

import Derived.Test.YtpennfojidpmeaaQj
import Derived.ProofKit
import Derived.OpenShut
import Derived.Deep.Slices
import Derived.ChangeSame
import Derived.WideKeyArgs
namespace Go.Proofs.Ytpennfojidpmeaa
open Go.Sx
set_option maxRecDepth 20000
abbrev oa (id n c : Nat) : OV := .m id n c 2
theorem mnV (x y : Int) : Value.int .i64 (if y < x then y else x) = .int .i64 (min x y) := by
  by_cases h : y < x
  · rw [if_pos h]; congr 1; omega
  · rw [if_neg h]; congr 1; omega
theorem verV_body (a : Ver) : ((verV a).drop 1).take 96 = bodL a.body := rfl
theorem recL_body (a : Rec) : ((recL a).drop 5).take 96 = bodL a.body := rfl
theorem a39 : aggB Try.prog 39 = some true := by kernel_rfl
theorem z39 : sizeB Try.prog 39 = some 96 := by kernel_rfl
theorem ldG {α : Type} [Inhabited α] {f : α → List Value} {n : Nat} (hf : ∀ a, (f a).length = n) {d : Den} {t kk id j c i : Nat} {S : List α} {v u : Value} (hi : i < S.length) (hc : c < n) (ha : aggB Try.prog t = some false) (ho : d.o kk = .pointer (some ⟨id, 0 + i * n + c, none⟩)) (hj : d.row j = enc f S) (hu : (f (gt S i))[c]? = some u) (hcv : @cv d [] DEP v = some u) : @LdE.Ok d Try.prog ⟨t, kk, id, j, v⟩ := by
  refine ld_one ha ho ?_ hcv
  have h := enc_at (f := f) hf hi
  rw [hj, ← hu, ← h, List.getElem?_take, if_pos hc, List.getElem?_drop, Nat.zero_add]
theorem ldB {α : Type} [Inhabited α] {f : α → List Value} {n : Nat} (hf : ∀ a, (f a).length = n) {c : Nat} {bd : α → Nat → Int} (hb : ∀ a, ((f a).drop c).take 96 = bodL (bd a)) {d : Den} {kk id j i : Nat} {S : List α} {vs : List Value} (hi : i < S.length) (hc : c + 96 ≤ n) (ho : d.o kk = .pointer (some ⟨id, 0 + i * n + c, none⟩)) (hj : d.row j = enc f S) (hcv : mapO (@cv d [] 5) vs = some (bodL (bd (gt S i)))) : @LdE.Ok d Try.prog ⟨39, kk, id, j, .agg vs.toArray⟩ := by
  refine ld_agg a39 z39 ho ?_ ?_ rfl hcv
  · rw [hj, enc_len hf]
    have := Nat.mul_le_mul_right n (show i + 1 ≤ S.length from hi)
    rw [Nat.succ_mul] at this
    omega
  · have h := enc_at (f := f) hf hi
    rw [hj, ← hb, ← h, List.drop_take, List.take_take, List.drop_drop, Nat.zero_add, Nat.min_eq_left (by omega)]
def rN (n : Int) (v : Ver) : Rec := ⟨1, 1, n, 0, v.psn, v.body⟩
def tC (d : Dv) (c : Int) : Dv := ⟨d.n, d.S, d.e, d.nd, true, c, false, d.done⟩
def tW (d : Dv) : Dv := ⟨d.n, d.S, d.e, d.nd, false, d.left, false, d.done⟩
def tU (d : Dv) : Dv := ⟨d.n, d.S, upd d.e 1 (d.e 1 + 1), d.nd, d.cut, d.left, d.lost, d.done + 1⟩
theorem jmayR_f {j : Jb} (hj : ¬ MayJ j) : Ctr Try.prog 23 [jobV j] [] (.bool false) [] := by
  · by_cases h0 : ((j.nodes) : Int) ≥ (2)
    · by_cases h1 : ((j.nodes) : Int) ≤ (8)
      · by_cases h2 : ((j.pages) : Int) ≥ (1)
        · by_cases h3 : ((j.pages) : Int) ≤ (16)
          · by_cases h4 : ((j.frames) : Int) ≥ (1)
            · by_cases h5 : ((j.frames) : Int) ≤ (16)
              · by_cases h6 : ((j.log) : Int) ≥ (2)
                · by_cases h7 : ((j.log) : Int) ≤ (64)
                  · by_cases h8 : ((j.pat) : Int) ≥ (2)
                    · by_cases h9 : ((j.pat) : Int) ≤ (100)
                      · exact absurd (show MayJ j from ⟨⟨by omega, by omega⟩, ⟨by omega, by omega⟩, ⟨by omega, by omega⟩, ⟨by omega, by omega⟩, ⟨by omega, by omega⟩⟩) hj
                      · skip
                        exact pth (denQ (jobL j) (by kernel_rfl) [] rfl [] no_rows) ⟨[(.bin .geq 3 (sv 0) (.int .i64 2), .bool true), (.bin .leq 3 (sv 0) (.int .i64 8), .bool true), (.bin .geq 3 (sv 1) (.int .i64 1), .bool true), (.bin .leq 3 (sv 1) (.int .i64 16), .bool true), (.bin .geq 3 (sv 2) (.int .i64 1), .bool true), (.bin .leq 3 (sv 2) (.int .i64 16), .bool true), (.bin .geq 3 (sv 3) (.int .i64 2), .bool true), (.bin .leq 3 (sv 3) (.int .i64 64), .bool true), (.bin .geq 3 (sv 4) (.int .i64 2), .bool true), (.bin .leq 3 (sv 4) (.int .i64 100), .bool false)], [], []⟩ [] ⟨qT ((j.nodes) ≥ (2)) (by omega), qT ((j.nodes) ≤ (8)) (by omega), qT ((j.pages) ≥ (1)) (by omega), qT ((j.pages) ≤ (16)) (by omega), qT ((j.frames) ≥ (1)) (by omega), qT ((j.frames) ≤ (16)) (by omega), qT ((j.log) ≥ (2)) (by omega), qT ((j.log) ≤ (64)) (by omega), qT ((j.pat) ≥ (2)) (by omega), qF ((j.pat) ≤ (100)) (by omega), trivial⟩ trivial trivial trivial 0 ([]) [vA 0 5] []
                    · skip
                      exact pth (denQ (jobL j) (by kernel_rfl) [] rfl [] no_rows) ⟨[(.bin .geq 3 (sv 0) (.int .i64 2), .bool true), (.bin .leq 3 (sv 0) (.int .i64 8), .bool true), (.bin .geq 3 (sv 1) (.int .i64 1), .bool true), (.bin .leq 3 (sv 1) (.int .i64 16), .bool true), (.bin .geq 3 (sv 2) (.int .i64 1), .bool true), (.bin .leq 3 (sv 2) (.int .i64 16), .bool true), (.bin .geq 3 (sv 3) (.int .i64 2), .bool true), (.bin .leq 3 (sv 3) (.int .i64 64), .bool true), (.bin .geq 3 (sv 4) (.int .i64 2), .bool false)], [], []⟩ [] ⟨qT ((j.nodes) ≥ (2)) (by omega), qT ((j.nodes) ≤ (8)) (by omega), qT ((j.pages) ≥ (1)) (by omega), qT ((j.pages) ≤ (16)) (by omega), qT ((j.frames) ≥ (1)) (by omega), qT ((j.frames) ≤ (16)) (by omega), qT ((j.log) ≥ (2)) (by omega), qT ((j.log) ≤ (64)) (by omega), qF ((j.pat) ≥ (2)) (by omega), trivial⟩ trivial trivial trivial 0 ([]) [vA 0 5] []
                  · skip
                    exact pth (denQ (jobL j) (by kernel_rfl) [] rfl [] no_rows) ⟨[(.bin .geq 3 (sv 0) (.int .i64 2), .bool true), (.bin .leq 3 (sv 0) (.int .i64 8), .bool true), (.bin .geq 3 (sv 1) (.int .i64 1), .bool true), (.bin .leq 3 (sv 1) (.int .i64 16), .bool true), (.bin .geq 3 (sv 2) (.int .i64 1), .bool true), (.bin .leq 3 (sv 2) (.int .i64 16), .bool true), (.bin .geq 3 (sv 3) (.int .i64 2), .bool true), (.bin .leq 3 (sv 3) (.int .i64 64), .bool false)], [], []⟩ [] ⟨qT ((j.nodes) ≥ (2)) (by omega), qT ((j.nodes) ≤ (8)) (by omega), qT ((j.pages) ≥ (1)) (by omega), qT ((j.pages) ≤ (16)) (by omega), qT ((j.frames) ≥ (1)) (by omega), qT ((j.frames) ≤ (16)) (by omega), qT ((j.log) ≥ (2)) (by omega), qF ((j.log) ≤ (64)) (by omega), trivial⟩ trivial trivial trivial 0 ([]) [vA 0 5] []
                · skip
                  exact pth (denQ (jobL j) (by kernel_rfl) [] rfl [] no_rows) ⟨[(.bin .geq 3 (sv 0) (.int .i64 2), .bool true), (.bin .leq 3 (sv 0) (.int .i64 8), .bool true), (.bin .geq 3 (sv 1) (.int .i64 1), .bool true), (.bin .leq 3 (sv 1) (.int .i64 16), .bool true), (.bin .geq 3 (sv 2) (.int .i64 1), .bool true), (.bin .leq 3 (sv 2) (.int .i64 16), .bool true), (.bin .geq 3 (sv 3) (.int .i64 2), .bool false)], [], []⟩ [] ⟨qT ((j.nodes) ≥ (2)) (by omega), qT ((j.nodes) ≤ (8)) (by omega), qT ((j.pages) ≥ (1)) (by omega), qT ((j.pages) ≤ (16)) (by omega), qT ((j.frames) ≥ (1)) (by omega), qT ((j.frames) ≤ (16)) (by omega), qF ((j.log) ≥ (2)) (by omega), trivial⟩ trivial trivial trivial 0 ([]) [vA 0 5] []
              · skip
                exact pth (denQ (jobL j) (by kernel_rfl) [] rfl [] no_rows) ⟨[(.bin .geq 3 (sv 0) (.int .i64 2), .bool true), (.bin .leq 3 (sv 0) (.int .i64 8), .bool true), (.bin .geq 3 (sv 1) (.int .i64 1), .bool true), (.bin .leq 3 (sv 1) (.int .i64 16), .bool true), (.bin .geq 3 (sv 2) (.int .i64 1), .bool true), (.bin .leq 3 (sv 2) (.int .i64 16), .bool false)], [], []⟩ [] ⟨qT ((j.nodes) ≥ (2)) (by omega), qT ((j.nodes) ≤ (8)) (by omega), qT ((j.pages) ≥ (1)) (by omega), qT ((j.pages) ≤ (16)) (by omega), qT ((j.frames) ≥ (1)) (by omega), qF ((j.frames) ≤ (16)) (by omega), trivial⟩ trivial trivial trivial 0 ([]) [vA 0 5] []
            · skip
              exact pth (denQ (jobL j) (by kernel_rfl) [] rfl [] no_rows) ⟨[(.bin .geq 3 (sv 0) (.int .i64 2), .bool true), (.bin .leq 3 (sv 0) (.int .i64 8), .bool true), (.bin .geq 3 (sv 1) (.int .i64 1), .bool true), (.bin .leq 3 (sv 1) (.int .i64 16), .bool true), (.bin .geq 3 (sv 2) (.int .i64 1), .bool false)], [], []⟩ [] ⟨qT ((j.nodes) ≥ (2)) (by omega), qT ((j.nodes) ≤ (8)) (by omega), qT ((j.pages) ≥ (1)) (by omega), qT ((j.pages) ≤ (16)) (by omega), qF ((j.frames) ≥ (1)) (by omega), trivial⟩ trivial trivial trivial 0 ([]) [vA 0 5] []
          · skip
            exact pth (denQ (jobL j) (by kernel_rfl) [] rfl [] no_rows) ⟨[(.bin .geq 3 (sv 0) (.int .i64 2), .bool true), (.bin .leq 3 (sv 0) (.int .i64 8), .bool true), (.bin .geq 3 (sv 1) (.int .i64 1), .bool true), (.bin .leq 3 (sv 1) (.int .i64 16), .bool false)], [], []⟩ [] ⟨qT ((j.nodes) ≥ (2)) (by omega), qT ((j.nodes) ≤ (8)) (by omega), qT ((j.pages) ≥ (1)) (by omega), qF ((j.pages) ≤ (16)) (by omega), trivial⟩ trivial trivial trivial 0 ([]) [vA 0 5] []
        · skip
          exact pth (denQ (jobL j) (by kernel_rfl) [] rfl [] no_rows) ⟨[(.bin .geq 3 (sv 0) (.int .i64 2), .bool true), (.bin .leq 3 (sv 0) (.int .i64 8), .bool true), (.bin .geq 3 (sv 1) (.int .i64 1), .bool false)], [], []⟩ [] ⟨qT ((j.nodes) ≥ (2)) (by omega), qT ((j.nodes) ≤ (8)) (by omega), qF ((j.pages) ≥ (1)) (by omega), trivial⟩ trivial trivial trivial 0 ([]) [vA 0 5] []
      · skip
        exact pth (denQ (jobL j) (by kernel_rfl) [] rfl [] no_rows) ⟨[(.bin .geq 3 (sv 0) (.int .i64 2), .bool true), (.bin .leq 3 (sv 0) (.int .i64 8), .bool false)], [], []⟩ [] ⟨qT ((j.nodes) ≥ (2)) (by omega), qF ((j.nodes) ≤ (8)) (by omega), trivial⟩ trivial trivial trivial 0 ([]) [vA 0 5] []
    · skip
      exact pth (denQ (jobL j) (by kernel_rfl) [] rfl [] no_rows) ⟨[(.bin .geq 3 (sv 0) (.int .i64 2), .bool false)], [], []⟩ [] ⟨qF ((j.nodes) ≥ (2)) (by omega), trivial⟩ trivial trivial trivial 0 ([]) [vA 0 5] []
noncomputable abbrev dT (j : Jb) (F T : List Ver) (cF cT : Nat) (cut : Int) (v : Ver) (d : Dv) (l : Lo) (M : List Rec) (i : Nat) : Den := denQ (jobL j ++ [iv cut] ++ verV v ++ devC d ++ logC l ++ [iv (i : Int)]) rfl [oa 0 F.length cF, oa 1 T.length cT, .v (.slice (some ⟨5, 0, none⟩) d.n d.n), ow 7 l.L.length INF, om 8 M.length INF] rfl [enc verV F, enc verV T, enc secL d.S, enc recL l.L, enc recL M] (PL.cons (enc_plain verV_plain _) (PL.cons (enc_plain verV_plain _) (PL.cons (enc_plain secL_plain _) (PL.cons (enc_plain recL_plain _) (PL.cons (enc_plain recL_plain _) no_rows)))))
noncomputable def fT (x : Value) : FV := [(1, ch 0), (2, ch 1), (3, sv 5), (5, pt 2 0), (9, pt 3 0), (11, pt 4 0), (12, pt 6 0), (14, x), (15, sv 125)]
noncomputable def aT (T1 T2 : Nat) : HL := [(0, .mrow T1 0 true), (1, .mrow T2 1 true), (2, .row 24 (.lst (svs 0 5)) false), (3, .row 41 (.lst (svs 6 97)) false), (4, .row 95 (.lst (ch 2 :: svs 103 13)) false), (5, .orow 114 2 false), (6, .row 62 (.lst (pt 4 0 :: (svs 116 9 ++ [ch 3]))) false), (7, .mrow 47 3 false)]
noncomputable def xT (T1 T2 : Nat) : Cfg := headC (hd 4 0) .normal (fT (ch 4)) 303 9 (aT T1 T2 ++ [(8, .mrow 47 4 false)])
noncomputable def xT0 (T1 T2 : Nat) : Cfg := headC (hd 4 0) .normal (fT (.slice none 0 0)) 303 9 (aT T1 T2)
def AA (T1 T2 : Nat) (F T : List Ver) : HL := [(0, rowOr T1 (enc verV F) true), (1, rowOr T2 (enc verV T) true)]
abbrev CT (T1 T2 : Nat) (j : Jb) (F T : List Ver) (cF cT : Nat) (cut : Int) (v : Ver) : Prop := Ctr Try.prog 4 [jobV j, mSl 0 F.length cF 2, mSl 1 T.length cT 2, iv cut, .agg (verV v).toArray] (AA T1 T2 F T) (.bool true) []
abbrev GT (T1 T2 : Nat) (A : HL) (j : Jb) (F T : List Ver) (cF cT : Nat) (cut : Int) (v : Ver) (d : Dv) (l : Lo) (M : List Rec) (i : Nat) : Prop := GoodS (dT j F T cF cT cut v d l M i) Try.prog 4 A (.bool true) [] [] (xT T1 T2)
theorem GT.nil {T1 T2 : Nat} {A : HL} {j : Jb} {F T : List Ver} {cF cT : Nat} {cut : Int} {v : Ver} {d : Dv} {l : Lo} {i : Nat} (hg : GT T1 T2 A j F T cF cT cut v d l [] i) : GoodS (dT j F T cF cT cut v d l [] i) Try.prog 4 A (.bool true) [] [] (xT0 T1 T2) :=
  goodS_slots (fv := fT (ch 4)) (fv' := fT (.slice none 0 0)) (by simp only [slotsOK, fT]; exact ⟨trivial, .inl trivial, trivial, .inl trivial, trivial, .inl trivial, trivial, .inl trivial, trivial, .inl trivial, trivial, .inl trivial, trivial, .inl trivial, trivial, .inr ⟨4, rfl, rfl⟩, trivial, .inl trivial, trivial⟩) (goodS_ghost (A2 := aT T1 T2) hg rfl rfl)
noncomputable abbrev dT2 (j : Jb) (T : List Ver) (cT : Nat) (cut : Int) (v : Ver) (d : Dv) (l : Lo) (M : List Rec) (sure i : Nat) : Den := denQ (jobL j ++ [iv cut] ++ verV v ++ devC d ++ logC l ++ [iv (sure : Int), iv (i : Int)]) rfl [oa 1 T.length cT, .v (.slice (some ⟨5, 0, none⟩) d.n d.n), ow 7 l.L.length INF, om 8 M.length INF] rfl [enc verV T, enc secL d.S, enc recL l.L, enc recL M] (PL.cons (enc_plain verV_plain _) (PL.cons (enc_plain secL_plain _) (PL.cons (enc_plain recL_plain _) (PL.cons (enc_plain recL_plain _) no_rows))))
noncomputable def xT2 (T2 : Nat) : Cfg := headC (hd 4 1) .normal [(2, ch 0), (3, sv 5), (5, pt 2 0), (9, pt 3 0), (11, pt 4 0), (12, pt 6 0), (14, ch 3), (18, sv 125), (19, sv 126)] 303 9 [(1, .mrow T2 0 true), (2, .row 24 (.lst (svs 0 5)) false), (3, .row 41 (.lst (svs 6 97)) false), (4, .row 95 (.lst (ch 1 :: svs 103 13)) false), (5, .orow 114 1 false), (6, .row 62 (.lst (pt 4 0 :: (svs 116 9 ++ [ch 2]))) false), (7, .mrow 47 2 false), (8, .mrow 47 3 false)]
abbrev GT2 (T2 : Nat) (A : HL) (j : Jb) (T : List Ver) (cT : Nat) (cut : Int) (v : Ver) (d : Dv) (l : Lo) (M : List Rec) (sure i : Nat) : Prop := GoodS (dT2 j T cT cut v d l M sure i) Try.prog 4 A (.bool true) [] [] (xT2 T2)
noncomputable abbrev dT3 (j : Jb) (v : Ver) (d : Dv) (m : Lo) (M X : List Rec) (ep s : Int) (t : Nat) : Den := denQ (jobL j ++ verV v ++ devC d ++ logC m ++ [iv ep, iv s, iv (t : Int)]) rfl [.v (.slice (some ⟨5, 0, none⟩) d.n d.n), ow 7 m.L.length INF, om 8 M.length INF, om 9 X.length INF] rfl [enc secL d.S, enc recL m.L, enc recL M, enc recL X] (PL.cons (enc_plain secL_plain _) (PL.cons (enc_plain recL_plain _) (PL.cons (enc_plain recL_plain _) (PL.cons (enc_plain recL_plain _) no_rows))))
noncomputable def xT3 : Cfg := headC (hd 4 2) .normal [(5, pt 2 0), (9, pt 3 0), (11, pt 4 0), (14, ch 2), (22, sv 124), (24, pt 6 0), (25, sv 125), (26, ch 3), (28, sv 126)] 303 10 [(2, .row 24 (.lst (svs 0 5)) false), (3, .row 41 (.lst (svs 5 97)) false), (4, .row 95 (.lst (ch 0 :: svs 102 13)) false), (5, .orow 114 0 false), (6, .row 62 (.lst (pt 4 0 :: (svs 115 9 ++ [ch 1]))) false), (7, .mrow 47 1 false), (8, .mrow 47 2 false), (9, .mrow 47 3 false)]
abbrev GT3 (A : HL) (j : Jb) (v : Ver) (d : Dv) (m : Lo) (M X : List Rec) (ep s : Int) (t : Nat) : Prop := GoodS (dT3 j v d m M X ep s t) Try.prog 4 A (.bool true) [] [] xT3
section
variable {T1 T2 : Nat} {A : HL} {j : Jb} {F T : List Ver} {cF cT : Nat} {cut : Int} {v : Ver}
theorem t_nojob (hmj : Ctr Try.prog 23 [jobV j] [] (.bool false) []) : CT T1 T2 j F T cF cT cut v := by
  exact pth (denQ (jobL j ++ [.int .i64 (cut)] ++ verV v) (by kernel_rfl) [oa 0 F.length cF, oa 1 T.length cT] rfl [enc verV F, enc verV T] (PL.cons (enc_plain verV_plain _) (PL.cons (enc_plain verV_plain _) no_rows))) ⟨[], [], []⟩ [(23, [⟨[.agg #[sv 0, sv 1, sv 2, sv 3, sv 4]], 4, [], [], [], .bool false⟩]), (12, [⟨[], 4, [], [], [], .bool true⟩])] trivial trivial trivial ⟨oe hmj, oe known_ctr, trivial⟩ 2 ([(0, .mrow T1 0 true), (1, .mrow T2 1 true)]) [vA 0 5, ch 0, ch 1, sv 5, vA 6 97] []
theorem t_guard (hmj : Ctr Try.prog 23 [jobV j] [] (.bool true) []) (hg : ¬ (F.length ≤ 60 ∧ T.length ≤ 60 ∧ 0 ≤ cut ∧ cut ≤ 1000)) : CT T1 T2 j F T cF cT cut v := by
  · by_cases h0 : (((F.length : Int)) : Int) > (60)
    · skip
      exact pth (denQ (jobL j ++ [.int .i64 (cut)] ++ verV v ++ [.int .i64 ((F.length : Int))]) (by kernel_rfl) [oa 0 F.length cF, oa 1 T.length cT] rfl [enc verV F, enc verV T] (PL.cons (enc_plain verV_plain _) (PL.cons (enc_plain verV_plain _) no_rows))) ⟨[(.len 49 (.chan (some 0)), sv 103), (.bin .gtr 3 (sv 103) (.int .i64 60), .bool true)], [], []⟩ [(23, [⟨[.agg #[sv 0, sv 1, sv 2, sv 3, sv 4]], 4, [], [], [], .bool true⟩]), (12, [⟨[], 4, [], [], [], .bool true⟩])] ⟨asLen u49 rfl (by kernel_rfl), qT (((F.length : Int)) > (60)) (by omega), trivial⟩ trivial trivial ⟨oe hmj, oe known_ctr, trivial⟩ 2 ([(0, .mrow T1 0 true), (1, .mrow T2 1 true)]) [vA 0 5, ch 0, ch 1, sv 5, vA 6 97] []
    · by_cases h1 : (((T.length : Int)) : Int) > (60)
      · skip
        exact pth (denQ (jobL j ++ [.int .i64 (cut)] ++ verV v ++ [.int .i64 ((F.length : Int)), .int .i64 ((T.length : Int))]) (by kernel_rfl) [oa 0 F.length cF, oa 1 T.length cT] rfl [enc verV F, enc verV T] (PL.cons (enc_plain verV_plain _) (PL.cons (enc_plain verV_plain _) no_rows))) ⟨[(.len 49 (.chan (some 0)), sv 103), (.bin .gtr 3 (sv 103) (.int .i64 60), .bool false), (.len 49 (.chan (some 1)), sv 104), (.bin .gtr 3 (sv 104) (.int .i64 60), .bool true)], [], []⟩ [(23, [⟨[.agg #[sv 0, sv 1, sv 2, sv 3, sv 4]], 4, [], [], [], .bool true⟩]), (12, [⟨[], 4, [], [], [], .bool true⟩])] ⟨asLen u49 rfl (by kernel_rfl), qF (((F.length : Int)) > (60)) (by omega), asLen u49 rfl (by kernel_rfl), qT (((T.length : Int)) > (60)) (by omega), trivial⟩ trivial trivial ⟨oe hmj, oe known_ctr, trivial⟩ 2 ([(0, .mrow T1 0 true), (1, .mrow T2 1 true)]) [vA 0 5, ch 0, ch 1, sv 5, vA 6 97] []
      · by_cases h2 : ((cut) : Int) < (0)
        · skip
          exact pth (denQ (jobL j ++ [.int .i64 (cut)] ++ verV v ++ [.int .i64 ((F.length : Int)), .int .i64 ((T.length : Int))]) (by kernel_rfl) [oa 0 F.length cF, oa 1 T.length cT] rfl [enc verV F, enc verV T] (PL.cons (enc_plain verV_plain _) (PL.cons (enc_plain verV_plain _) no_rows))) ⟨[(.len 49 (.chan (some 0)), sv 103), (.bin .gtr 3 (sv 103) (.int .i64 60), .bool false), (.len 49 (.chan (some 1)), sv 104), (.bin .gtr 3 (sv 104) (.int .i64 60), .bool false), (.bin .lss 3 (sv 5) (.int .i64 0), .bool true)], [], []⟩ [(23, [⟨[.agg #[sv 0, sv 1, sv 2, sv 3, sv 4]], 4, [], [], [], .bool true⟩]), (12, [⟨[], 4, [], [], [], .bool true⟩])] ⟨asLen u49 rfl (by kernel_rfl), qF (((F.length : Int)) > (60)) (by omega), asLen u49 rfl (by kernel_rfl), qF (((T.length : Int)) > (60)) (by omega), qT ((cut) < (0)) (by omega), trivial⟩ trivial trivial ⟨oe hmj, oe known_ctr, trivial⟩ 2 ([(0, .mrow T1 0 true), (1, .mrow T2 1 true)]) [vA 0 5, ch 0, ch 1, sv 5, vA 6 97] []
        · by_cases h3 : ((cut) : Int) > (1000)
          · skip
            exact pth (denQ (jobL j ++ [.int .i64 (cut)] ++ verV v ++ [.int .i64 ((F.length : Int)), .int .i64 ((T.length : Int))]) (by kernel_rfl) [oa 0 F.length cF, oa 1 T.length cT] rfl [enc verV F, enc verV T] (PL.cons (enc_plain verV_plain _) (PL.cons (enc_plain verV_plain _) no_rows))) ⟨[(.len 49 (.chan (some 0)), sv 103), (.bin .gtr 3 (sv 103) (.int .i64 60), .bool false), (.len 49 (.chan (some 1)), sv 104), (.bin .gtr 3 (sv 104) (.int .i64 60), .bool false), (.bin .lss 3 (sv 5) (.int .i64 0), .bool false), (.bin .gtr 3 (sv 5) (.int .i64 1000), .bool true)], [], []⟩ [(23, [⟨[.agg #[sv 0, sv 1, sv 2, sv 3, sv 4]], 4, [], [], [], .bool true⟩]), (12, [⟨[], 4, [], [], [], .bool true⟩])] ⟨asLen u49 rfl (by kernel_rfl), qF (((F.length : Int)) > (60)) (by omega), asLen u49 rfl (by kernel_rfl), qF (((T.length : Int)) > (60)) (by omega), qF ((cut) < (0)) (by omega), qT ((cut) > (1000)) (by omega), trivial⟩ trivial trivial ⟨oe hmj, oe known_ctr, trivial⟩ 2 ([(0, .mrow T1 0 true), (1, .mrow T2 1 true)]) [vA 0 5, ch 0, ch 1, sv 5, vA 6 97] []
          · exact absurd ⟨by omega, by omega, by omega, by omega⟩ hg
theorem t_start (h1 : F.length ≤ 60) (h2 : T.length ≤ 60) (h3 : 0 ≤ cut ∧ cut ≤ 1000) (hmj : Ctr Try.prog 23 [jobV j] [] (.bool true) []) (hnew : Ctr Try.prog 14 [jobV j] [] (pt 0 0) (devH (devN j) false)) (hopen : Ctr Try.prog 15 [pt 0 0, jobV j, iv 1, iv 1] (devH (devN j) false) (.tuple #[pt 2 0, iv 0]) (devH (devN j) false ++ logA (log0 j 1) 3 false))
    (hg : GT T1 T2 (AA T1 T2 F T) j F T cF cT cut v (devN j) (log0 j 1) [] 0) : CT T1 T2 j F T cF cT cut v := by
  have hg := hg.nil
  · exact g0 (denQ (jobL j ++ [.int .i64 (cut)] ++ verV v ++ [.int .i64 ((F.length : Int)), .int .i64 ((T.length : Int))] ++ devC (devN j) ++ devC (devN j) ++ logC (log0 j 1)) (by kernel_rfl) [oa 0 F.length cF, oa 1 T.length cT, .v (.slice (some ⟨5, 0, none⟩) (devN j).n (devN j).n), ow 7 (log0 j 1).L.length INF] rfl [enc verV F, enc verV T, enc secL (devN j).S, enc secL (devN j).S, enc recL (log0 j 1).L] (PL.cons (enc_plain verV_plain _) (PL.cons (enc_plain verV_plain _) (PL.cons (enc_plain secL_plain _) (PL.cons (enc_plain secL_plain _) (PL.cons (enc_plain recL_plain _) no_rows)))))) (dT j F T cF cT cut v (devN j) (log0 j 1) [] 0) ⟨[(.len 49 (.chan (some 0)), sv 103), (.bin .gtr 3 (sv 103) (.int .i64 60), .bool false), (.len 49 (.chan (some 1)), sv 104), (.bin .gtr 3 (sv 104) (.int .i64 60), .bool false), (.bin .lss 3 (sv 5) (.int .i64 0), .bool false), (.bin .gtr 3 (sv 5) (.int .i64 1000), .bool false)], [], []⟩ [(23, [⟨[.agg #[sv 0, sv 1, sv 2, sv 3, sv 4]], 4, [], [], [], .bool true⟩]), (14, [⟨[.agg #[sv 0, sv 1, sv 2, sv 3, sv 4]], 4, [], [], [(0, .row 95 (.lst ([.chan (some 2)] ++ svs 105 13)) false), (1, .orow 114 2 false)], .pointer (some ⟨4, 0, none⟩)⟩]), (15, [⟨[.pointer (some ⟨4, 0, none⟩), .agg #[sv 0, sv 1, sv 2, sv 3, sv 4], .int .i64 1, .int .i64 1], 6, [], [⟨4, 0, false, .row 95 (.lst ([.chan (some 2)] ++ svs 105 13)) false, .row 95 (.lst ([.chan (some 2)] ++ svs 118 13)) false⟩, ⟨5, 1, false, .orow 114 2 false, .orow 114 3 false⟩], [(2, .row 62 (.lst ([.pointer (some ⟨4, 0, none⟩)] ++ svs 131 9 ++ [.chan (some 3)])) false), (3, .mrow 47 4 false)], .tuple #[.pointer (some ⟨6, 0, none⟩), .int .i64 0]⟩])] ⟨asLen u49 rfl (by kernel_rfl), qF (((F.length : Int)) > (60)) (by omega), asLen u49 rfl (by kernel_rfl), qF (((T.length : Int)) > (60)) (by omega), qF ((cut) < (0)) (by omega), qF ((cut) > (1000)) (by omega), trivial⟩ trivial trivial ⟨oe hmj, oe hnew, oe hopen, trivial⟩ 21 2 [(0, .mrow T1 0 true), (1, .mrow T2 1 true)] [vA 0 5, ch 0, ch 1, sv 5, vA 6 97] [(0, 0), (1, 1), (2, 2), (3, 3), (4, 4), (5, 5), (6, 6), (7, 7)] hg
variable {d : Dv} {l : Lo} {M : List Rec} {i : Nat}
theorem t_a (hl : LOK l) (hi : i < F.length) (hF : F.length ≤ 60) (hM : M.length ≤ 64) (hr : roomM l ≠ 0) (happ : Ctr Try.prog 20 [pt 2 0, iv 0, .agg (verV (gt F i)).toArray] (logR l 3 false) (.tuple #[iv (l.start + l.L.length), iv 0]) [(2, .row 62 (.lst (logRow (apM l 0 (gt F i)) 4)) false), (3, .dead), (4, rowOr 47 (enc recL (apM l 0 (gt F i)).L) false), (0, .dead)])
    (hg : GT T1 T2 A j F T cF cT cut v d (apM l 0 (gt F i)) (M ++ [rN (l.start + l.L.length) (gt F i)]) (i + 1)) : GT T1 T2 A j F T cF cT cut v d l M i := by
  · exact gS (denQ (jobL j ++ [.int .i64 (cut)] ++ verV v ++ devC d ++ logC l ++ [.int .i64 ((i : Int)), .int .i64 ((F.length : Int)), .int .i64 (roomM l)] ++ verV (gt F (((i : Int)) : Int).toNat) ++ logC (apM l 0 (gt F i)) ++ [.int .i64 ((l.start + l.L.length)), .int .i64 (((gt F (((i : Int)) : Int).toNat).psn))] ++ bodL (gt F (((i : Int)) : Int).toNat).body ++ [.int .i64 (((i : Int)) + (1))]) (by kernel_rfl) [oa 0 F.length cF, oa 1 T.length cT, .v (.slice (some ⟨5, 0, none⟩) d.n d.n), ow 7 l.L.length INF, om 8 M.length INF, .v (.pointer (some ⟨0, 0 + (((i : Int)) : Int).toNat * 97, none⟩)), ow 9 (apM l 0 (gt F i)).L.length INF, .v (.pointer (some ⟨0, 0 + (((i : Int)) : Int).toNat * 97 + 0, none⟩)), .v (.pointer (some ⟨0, 0 + (((i : Int)) : Int).toNat * 97 + 1, none⟩)), om 11 (M ++ [(rN (l.start + l.L.length) (gt F i))]).length INF] rfl [enc verV F, enc verV T, enc secL d.S, enc recL l.L, enc recL M, enc recL (apM l 0 (gt F i)).L, enc recL (M ++ [(rN (l.start + l.L.length) (gt F i))])] (PL.cons (enc_plain verV_plain _) (PL.cons (enc_plain verV_plain _) (PL.cons (enc_plain secL_plain _) (PL.cons (enc_plain recL_plain _) (PL.cons (enc_plain recL_plain _) (PL.cons (enc_plain recL_plain _) (PL.cons (enc_plain recL_plain _) no_rows)))))))) (dT j F T cF cT cut v d (apM l 0 (gt F i)) (M ++ [(rN (l.start + l.L.length) (gt F i))]) (i + 1)) ⟨[(.len 49 (.chan (some 0)), sv 126), (.bin .lss 3 (sv 125) (sv 126), .bool true), (.bin .eql 3 (sv 127) (.int .i64 0), .bool false), (.ixa 49 (.chan (some 0)) (sv 125), .chan (some 5)), (.fa 41 (.chan (some 5)) 0, .chan (some 7)), (.fa 41 (.chan (some 5)) 1, .chan (some 8)), (.bin .add 3 (sv 125) (.int .i64 1), sv 332)], [⟨41, 5, 0, 0, vA 128 97⟩, ⟨2, 7, 0, 0, sv 235⟩, ⟨39, 8, 0, 0, vA 236 96⟩], [([43, 43], ⟨[.chan (some 4), .slice (some ⟨10, 0, none⟩) 1 1], 11, [], [⟨8, 0, false, .mrow 47 4 false, .dead⟩, ⟨10, 1, true, .row 47 (.lst ([.int .i64 1, .int .i64 1, sv 234, .int .i64 0] ++ svs 235 97)) false, .row 47 (.lst ([.int .i64 1, .int .i64 1, sv 234, .int .i64 0] ++ svs 235 97)) false⟩], [(2, .mrow 47 6 false)], .chan (some 9)⟩)]⟩ [(16, [⟨[.pointer (some ⟨6, 0, none⟩)], 9, [(4, 0)], [⟨6, 2, true, .row 62 (.lst ([.pointer (some ⟨4, 0, none⟩)] ++ svs 116 9 ++ [.chan (some 3)])) false, .row 62 (.lst ([.pointer (some ⟨4, 0, none⟩)] ++ svs 116 9 ++ [.chan (some 3)])) false⟩, ⟨7, 3, true, .mrow 47 3 false, .mrow 47 3 false⟩], [], sv 127⟩]), (20, [⟨[.pointer (some ⟨6, 0, none⟩), .int .i64 0, .agg (svs 128 97).toArray], 9, [(4, 0)], [⟨6, 2, false, .row 62 (.lst ([.pointer (some ⟨4, 0, none⟩)] ++ svs 116 9 ++ [.chan (some 3)])) false, .row 62 (.lst ([.pointer (some ⟨4, 0, none⟩)] ++ svs 225 9 ++ [.chan (some 6)])) false⟩, ⟨7, 3, false, .mrow 47 3 false, .dead⟩], [(4, .mrow 47 5 false)], .tuple #[sv 234, .int .i64 0]⟩])] ⟨asLen u49 rfl (by kernel_rfl), qT (((i : Int)) < ((F.length : Int))) (by omega), eF (roomM l) (0) (by omega), asIxaM u49 z41 rfl (by omega) rfl (by omega) (by omega) rfl rfl, asm_fa (by kernel_rfl), asm_fa (by kernel_rfl), aq (.int .i64 (((i : Int)) + (1))) (.int .i64 (IntKind.i64.wrap (((i : Int)) + (1)))) (wVi64 (((i : Int)) + (1)) (by omega) (by omega)), trivial⟩ ⟨ldE verV_len a41 z41 (by omega) rfl rfl (by kernel_rfl), ldG verV_len (S := F) (c := 0) (i := (((i : Int)) : Int).toNat) (by omega) (by decide) a2 rfl rfl rfl (by kernel_rfl), ldB verV_len verV_body (S := F) (c := 1) (i := (((i : Int)) : Int).toNat) (by omega) (by decide) rfl rfl (by kernel_rfl), trivial⟩ ⟨ap (appR (z := 0) M (rN (l.start + l.L.length) (gt F i)) 1 (by omega)), trivial⟩ ⟨oe (room_ctr hl), oe happ, trivial⟩ 18 [(0, 0), (1, 1), (2, 2), (3, 3), (4, 4), (5, 5), (6, 6), (9, 7), (11, 8)] hg
theorem t_b (hl : LOK l) (hi : i < F.length) (hF : F.length ≤ 60) (hr : roomM l ≠ 0) (happ : Ctr Try.prog 20 [pt 2 0, iv 0, .agg (verV (gt F i)).toArray] (logR l 3 false) (.tuple #[iv 0, iv 2]) (logR l 3 false)) (hg : GT T1 T2 A j F T cF cT cut v d l M (i + 1)) : GT T1 T2 A j F T cF cT cut v d l M i := by
  · exact gS (denQ (jobL j ++ [.int .i64 (cut)] ++ verV v ++ devC d ++ logC l ++ [.int .i64 ((i : Int)), .int .i64 ((F.length : Int)), .int .i64 (roomM l)] ++ verV (gt F (((i : Int)) : Int).toNat) ++ logC l ++ [.int .i64 (((i : Int)) + (1))]) (by kernel_rfl) [oa 0 F.length cF, oa 1 T.length cT, .v (.slice (some ⟨5, 0, none⟩) d.n d.n), ow 7 l.L.length INF, om 8 M.length INF, .v (.pointer (some ⟨0, 0 + (((i : Int)) : Int).toNat * 97, none⟩)), ow 7 l.L.length INF] rfl [enc verV F, enc verV T, enc secL d.S, enc recL l.L, enc recL M, enc recL l.L] (PL.cons (enc_plain verV_plain _) (PL.cons (enc_plain verV_plain _) (PL.cons (enc_plain secL_plain _) (PL.cons (enc_plain recL_plain _) (PL.cons (enc_plain recL_plain _) (PL.cons (enc_plain recL_plain _) no_rows))))))) (dT j F T cF cT cut v d l M (i + 1)) ⟨[(.len 49 (.chan (some 0)), sv 126), (.bin .lss 3 (sv 125) (sv 126), .bool true), (.bin .eql 3 (sv 127) (.int .i64 0), .bool false), (.ixa 49 (.chan (some 0)) (sv 125), .chan (some 5)), (.bin .add 3 (sv 125) (.int .i64 1), sv 234)], [⟨41, 5, 0, 0, vA 128 97⟩], []⟩ [(16, [⟨[.pointer (some ⟨6, 0, none⟩)], 9, [(4, 0)], [⟨6, 2, true, .row 62 (.lst ([.pointer (some ⟨4, 0, none⟩)] ++ svs 116 9 ++ [.chan (some 3)])) false, .row 62 (.lst ([.pointer (some ⟨4, 0, none⟩)] ++ svs 116 9 ++ [.chan (some 3)])) false⟩, ⟨7, 3, true, .mrow 47 3 false, .mrow 47 3 false⟩], [], sv 127⟩]), (20, [⟨[.pointer (some ⟨6, 0, none⟩), .int .i64 0, .agg (svs 128 97).toArray], 9, [(4, 0)], [⟨6, 2, false, .row 62 (.lst ([.pointer (some ⟨4, 0, none⟩)] ++ svs 116 9 ++ [.chan (some 3)])) false, .row 62 (.lst ([.pointer (some ⟨4, 0, none⟩)] ++ svs 225 9 ++ [.chan (some 6)])) false⟩, ⟨7, 3, false, .mrow 47 3 false, .mrow 47 5 false⟩], [], .tuple #[.int .i64 0, .int .i64 2]⟩])] ⟨asLen u49 rfl (by kernel_rfl), qT (((i : Int)) < ((F.length : Int))) (by omega), eF (roomM l) (0) (by omega), asIxaM u49 z41 rfl (by omega) rfl (by omega) (by omega) rfl rfl, aq (.int .i64 (((i : Int)) + (1))) (.int .i64 (IntKind.i64.wrap (((i : Int)) + (1)))) (wVi64 (((i : Int)) + (1)) (by omega) (by omega)), trivial⟩ ⟨ldE verV_len a41 z41 (by omega) rfl rfl (by kernel_rfl), trivial⟩ trivial ⟨oe (room_ctr hl), oe happ, trivial⟩ 18 [(0, 0), (1, 1), (2, 2), (3, 3), (4, 4), (5, 5), (6, 6), (7, 7), (8, 8)] hg
set_option maxHeartbeats 2000000 in
theorem t_c (hl : LOK l) (hi : i < F.length) (hF : F.length ≤ 60) (hf : 0 ≤ (flL l).flushed ∧ (flL l).flushed ≤ 1000000) (hr : roomM l = 0) (hflush : Ctr Try.prog 17 [pt 2 0] (devH d false ++ logA l 3 false) (iv 0) (devH (flW l d) false ++ logA (flL l) 3 false)) (hfl : Ctr Try.prog 24 [pt 2 0] (logR (flL l) 3 true) (iv (flL l).flushed) [(0, .dead)])
    (hcut : Ctr Try.prog 18 [pt 2 0, iv ((flL l).flushed + 1)] (devH (flW l d) false ++ logA (flL l) 3 false) (iv 0) (devH (write1 (flW l d) (headAt l.j l.node) (headS ((flL l).flushed + 1) l.epoch)) false ++ [(2, .row 62 (.lst (logRow (cutM (flL l) ((flL l).flushed + 1)) 4)) false), (3, .dead), (4, rowOr 47 (enc recL (cutM (flL l) ((flL l).flushed + 1)).L) false)]))
    (happ : Ctr Try.prog 20 [pt 2 0, iv 0, .agg (verV (gt F i)).toArray] (logR (cutM (flL l) ((flL l).flushed + 1)) 3 false) (.tuple #[iv ((cutM (flL l) ((flL l).flushed + 1)).start + (cutM (flL l) ((flL l).flushed + 1)).L.length), iv 0]) [(2, .row 62 (.lst (logRow (apM (cutM (flL l) ((flL l).flushed + 1)) 0 (gt F i)) 4)) false), (3, .dead), (4, rowOr 47 (enc recL (apM (cutM (flL l) ((flL l).flushed + 1)) 0 (gt F i)).L) false), (0, .dead)])
    (hg : GT T1 T2 A j F T cF cT cut v (write1 (flW l d) (headAt l.j l.node) (headS ((flL l).flushed + 1) l.epoch)) (apM (cutM (flL l) ((flL l).flushed + 1)) 0 (gt F i)) [rN ((cutM (flL l) ((flL l).flushed + 1)).start + (cutM (flL l) ((flL l).flushed + 1)).L.length) (gt F i)] (i + 1)) : GT T1 T2 A j F T cF cT cut v d l M i := by
  · exact gS (denQ (jobL j ++ [.int .i64 (cut)] ++ verV v ++ devC d ++ logC l ++ [.int .i64 ((i : Int)), .int .i64 ((F.length : Int)), .int .i64 (roomM l)] ++ devC (flW l d) ++ logC (flL l) ++ [.int .i64 (((flL l).flushed) + (1))] ++ devC (write1 (flW l d) (headAt l.j l.node) (headS ((flL l).flushed + 1) l.epoch)) ++ logC (cutM (flL l) ((flL l).flushed + 1)) ++ verV (gt F (((i : Int)) : Int).toNat) ++ logC (apM (cutM (flL l) ((flL l).flushed + 1)) 0 (gt F i)) ++ [.int .i64 (((cutM (flL l) ((flL l).flushed + 1)).start + (cutM (flL l) ((flL l).flushed + 1)).L.length)), .int .i64 (((gt F (((i : Int)) : Int).toNat).psn))] ++ bodL (gt F (((i : Int)) : Int).toNat).body ++ [.int .i64 (((i : Int)) + (1))]) (by kernel_rfl) [oa 0 F.length cF, oa 1 T.length cT, .v (.slice (some ⟨5, 0, none⟩) d.n d.n), ow 7 l.L.length INF, om 8 M.length INF, ow 7 (flL l).L.length INF, ow 9 (cutM (flL l) ((flL l).flushed + 1)).L.length INF, .v (.pointer (some ⟨0, 0 + (((i : Int)) : Int).toNat * 97, none⟩)), ow 10 (apM (cutM (flL l) ((flL l).flushed + 1)) 0 (gt F i)).L.length INF, .v (.pointer (some ⟨0, 0 + (((i : Int)) : Int).toNat * 97 + 0, none⟩)), .v (.pointer (some ⟨0, 0 + (((i : Int)) : Int).toNat * 97 + 1, none⟩))] rfl [enc verV F, enc verV T, enc secL d.S, enc recL l.L, enc recL M, enc secL (flW l d).S, enc recL (flL l).L, enc secL (write1 (flW l d) (headAt l.j l.node) (headS ((flL l).flushed + 1) l.epoch)).S, enc recL (cutM (flL l) ((flL l).flushed + 1)).L, enc recL (apM (cutM (flL l) ((flL l).flushed + 1)) 0 (gt F i)).L] (PL.cons (enc_plain verV_plain _) (PL.cons (enc_plain verV_plain _) (PL.cons (enc_plain secL_plain _) (PL.cons (enc_plain recL_plain _) (PL.cons (enc_plain recL_plain _) (PL.cons (enc_plain secL_plain _) (PL.cons (enc_plain recL_plain _) (PL.cons (enc_plain secL_plain _) (PL.cons (enc_plain recL_plain _) (PL.cons (enc_plain recL_plain _) no_rows))))))))))) (dT j F T cF cT cut v (write1 (flW l d) (headAt l.j l.node) (headS ((flL l).flushed + 1) l.epoch)) (apM (cutM (flL l) ((flL l).flushed + 1)) 0 (gt F i)) [(rN ((cutM (flL l) ((flL l).flushed + 1)).start + (cutM (flL l) ((flL l).flushed + 1)).L.length) (gt F i))] (i + 1)) ⟨[(.len 49 (.chan (some 0)), sv 126), (.bin .lss 3 (sv 125) (sv 126), .bool true), (.bin .eql 3 (sv 127) (.int .i64 0), .bool true), (.bin .add 2 (sv 149) (.int .i64 1), sv 150), (.ixa 49 (.chan (some 0)) (sv 125), .chan (some 7)), (.fa 41 (.chan (some 7)) 0, .chan (some 9)), (.fa 41 (.chan (some 7)) 1, .chan (some 10)), (.bin .add 3 (sv 125) (.int .i64 1), sv 377)], [⟨41, 7, 0, 0, vA 173 97⟩, ⟨2, 9, 0, 0, sv 280⟩, ⟨39, 10, 0, 0, vA 281 96⟩], []⟩ [(16, [⟨[.pointer (some ⟨6, 0, none⟩)], 9, [(4, 0)], [⟨6, 2, true, .row 62 (.lst ([.pointer (some ⟨4, 0, none⟩)] ++ svs 116 9 ++ [.chan (some 3)])) false, .row 62 (.lst ([.pointer (some ⟨4, 0, none⟩)] ++ svs 116 9 ++ [.chan (some 3)])) false⟩, ⟨7, 3, true, .mrow 47 3 false, .mrow 47 3 false⟩], [], sv 127⟩]), (17, [⟨[.pointer (some ⟨6, 0, none⟩)], 9, [], [⟨4, 0, false, .row 95 (.lst ([.chan (some 2)] ++ svs 103 13)) false, .row 95 (.lst ([.chan (some 2)] ++ svs 128 13)) false⟩, ⟨5, 1, false, .orow 114 2 false, .orow 114 5 false⟩, ⟨6, 2, false, .row 62 (.lst ([.pointer (some ⟨4, 0, none⟩)] ++ svs 116 9 ++ [.chan (some 3)])) false, .row 62 (.lst ([.pointer (some ⟨4, 0, none⟩)] ++ svs 141 9 ++ [.chan (some 5)])) false⟩, ⟨7, 3, false, .mrow 47 3 false, .mrow 47 6 false⟩], [], .int .i64 0⟩]), (24, [⟨[.pointer (some ⟨6, 0, none⟩)], 9, [(4, 0)], [⟨6, 2, true, .row 62 (.lst ([.pointer (some ⟨4, 0, none⟩)] ++ svs 141 9 ++ [.chan (some 5)])) false, .row 62 (.lst ([.pointer (some ⟨4, 0, none⟩)] ++ svs 141 9 ++ [.chan (some 5)])) false⟩, ⟨7, 3, true, .mrow 47 6 false, .mrow 47 6 false⟩], [], sv 149⟩]), (18, [⟨[.pointer (some ⟨6, 0, none⟩), sv 150], 9, [], [⟨4, 0, false, .row 95 (.lst ([.chan (some 2)] ++ svs 128 13)) false, .row 95 (.lst ([.chan (some 2)] ++ svs 151 13)) false⟩, ⟨5, 1, false, .orow 114 5 false, .orow 114 7 false⟩, ⟨6, 2, false, .row 62 (.lst ([.pointer (some ⟨4, 0, none⟩)] ++ svs 141 9 ++ [.chan (some 5)])) false, .row 62 (.lst ([.pointer (some ⟨4, 0, none⟩)] ++ svs 164 9 ++ [.chan (some 6)])) false⟩, ⟨7, 3, false, .mrow 47 6 false, .dead⟩], [(4, .mrow 47 8 false)], .int .i64 0⟩]), (20, [⟨[.pointer (some ⟨6, 0, none⟩), .int .i64 0, .agg (svs 173 97).toArray], 10, [(4, 0)], [⟨6, 2, false, .row 62 (.lst ([.pointer (some ⟨4, 0, none⟩)] ++ svs 164 9 ++ [.chan (some 6)])) false, .row 62 (.lst ([.pointer (some ⟨4, 0, none⟩)] ++ svs 270 9 ++ [.chan (some 8)])) false⟩, ⟨9, 3, false, .mrow 47 8 false, .dead⟩], [(4, .mrow 47 9 false)], .tuple #[sv 279, .int .i64 0]⟩])] ⟨asLen u49 rfl (by kernel_rfl), qT (((i : Int)) < ((F.length : Int))) (by omega), eT (roomM l) (0) (by omega), aq (.int .i64 (((flL l).flushed) + (1))) (.int .i64 (IntKind.i64.wrap (((flL l).flushed) + (1)))) (wVi64 (((flL l).flushed) + (1)) (by omega) (by omega)), asIxaM u49 z41 rfl (by omega) rfl (by omega) (by omega) rfl rfl, asm_fa (by kernel_rfl), asm_fa (by kernel_rfl), aq (.int .i64 (((i : Int)) + (1))) (.int .i64 (IntKind.i64.wrap (((i : Int)) + (1)))) (wVi64 (((i : Int)) + (1)) (by omega) (by omega)), trivial⟩ ⟨ldE verV_len a41 z41 (by omega) rfl rfl (by kernel_rfl), ldG verV_len (S := F) (c := 0) (i := (((i : Int)) : Int).toNat) (by omega) (by decide) a2 rfl rfl rfl (by kernel_rfl), ldB verV_len verV_body (S := F) (c := 1) (i := (((i : Int)) : Int).toNat) (by omega) (by decide) rfl rfl (by kernel_rfl), trivial⟩ trivial ⟨oe (room_ctr hl), oe hflush, oe hfl, oe hcut, oe happ, trivial⟩ 18 [(0, 0), (1, 1), (2, 2), (3, 3), (4, 4), (5, 5), (6, 6), (10, 7), (12, 8)] hg
theorem t_d (hl : LOK l) (hi : i < F.length) (hF : F.length ≤ 60) (hf : 0 ≤ (flL l).flushed ∧ (flL l).flushed ≤ 1000000) (hr : roomM l = 0) (hflush : Ctr Try.prog 17 [pt 2 0] (devH d false ++ logA l 3 false) (iv 0) (devH (flW l d) false ++ logA (flL l) 3 false)) (hfl : Ctr Try.prog 24 [pt 2 0] (logR (flL l) 3 true) (iv (flL l).flushed) [(0, .dead)])
    (hcut : Ctr Try.prog 18 [pt 2 0, iv ((flL l).flushed + 1)] (devH (flW l d) false ++ logA (flL l) 3 false) (iv 0) (devH (write1 (flW l d) (headAt l.j l.node) (headS ((flL l).flushed + 1) l.epoch)) false ++ [(2, .row 62 (.lst (logRow (cutM (flL l) ((flL l).flushed + 1)) 4)) false), (3, .dead), (4, rowOr 47 (enc recL (cutM (flL l) ((flL l).flushed + 1)).L) false)]))
    (happ : Ctr Try.prog 20 [pt 2 0, iv 0, .agg (verV (gt F i)).toArray] (logR (cutM (flL l) ((flL l).flushed + 1)) 3 false) (.tuple #[iv 0, iv 2]) (logR (cutM (flL l) ((flL l).flushed + 1)) 3 false))
    (hg : GT T1 T2 A j F T cF cT cut v (write1 (flW l d) (headAt l.j l.node) (headS ((flL l).flushed + 1) l.epoch)) (cutM (flL l) ((flL l).flushed + 1)) [] (i + 1)) : GT T1 T2 A j F T cF cT cut v d l M i := by
  have hg := hg.nil
  · exact gS (denQ (jobL j ++ [.int .i64 (cut)] ++ verV v ++ devC d ++ logC l ++ [.int .i64 ((i : Int)), .int .i64 ((F.length : Int)), .int .i64 (roomM l)] ++ devC (flW l d) ++ logC (flL l) ++ [.int .i64 (((flL l).flushed) + (1))] ++ devC (write1 (flW l d) (headAt l.j l.node) (headS ((flL l).flushed + 1) l.epoch)) ++ logC (cutM (flL l) ((flL l).flushed + 1)) ++ verV (gt F (((i : Int)) : Int).toNat) ++ logC (cutM (flL l) ((flL l).flushed + 1)) ++ [.int .i64 (((i : Int)) + (1))]) (by kernel_rfl) [oa 0 F.length cF, oa 1 T.length cT, .v (.slice (some ⟨5, 0, none⟩) d.n d.n), ow 7 l.L.length INF, om 8 M.length INF, ow 7 (flL l).L.length INF, ow 9 (cutM (flL l) ((flL l).flushed + 1)).L.length INF, .v (.pointer (some ⟨0, 0 + (((i : Int)) : Int).toNat * 97, none⟩)), ow 9 (cutM (flL l) ((flL l).flushed + 1)).L.length INF] rfl [enc verV F, enc verV T, enc secL d.S, enc recL l.L, enc recL M, enc secL (flW l d).S, enc recL (flL l).L, enc secL (write1 (flW l d) (headAt l.j l.node) (headS ((flL l).flushed + 1) l.epoch)).S, enc recL (cutM (flL l) ((flL l).flushed + 1)).L, enc recL (cutM (flL l) ((flL l).flushed + 1)).L] (PL.cons (enc_plain verV_plain _) (PL.cons (enc_plain verV_plain _) (PL.cons (enc_plain secL_plain _) (PL.cons (enc_plain recL_plain _) (PL.cons (enc_plain recL_plain _) (PL.cons (enc_plain secL_plain _) (PL.cons (enc_plain recL_plain _) (PL.cons (enc_plain secL_plain _) (PL.cons (enc_plain recL_plain _) (PL.cons (enc_plain recL_plain _) no_rows))))))))))) (dT j F T cF cT cut v (write1 (flW l d) (headAt l.j l.node) (headS ((flL l).flushed + 1) l.epoch)) (cutM (flL l) ((flL l).flushed + 1)) [] (i + 1)) ⟨[(.len 49 (.chan (some 0)), sv 126), (.bin .lss 3 (sv 125) (sv 126), .bool true), (.bin .eql 3 (sv 127) (.int .i64 0), .bool true), (.bin .add 2 (sv 149) (.int .i64 1), sv 150), (.ixa 49 (.chan (some 0)) (sv 125), .chan (some 7)), (.bin .add 3 (sv 125) (.int .i64 1), sv 279)], [⟨41, 7, 0, 0, vA 173 97⟩], []⟩ [(16, [⟨[.pointer (some ⟨6, 0, none⟩)], 9, [(4, 0)], [⟨6, 2, true, .row 62 (.lst ([.pointer (some ⟨4, 0, none⟩)] ++ svs 116 9 ++ [.chan (some 3)])) false, .row 62 (.lst ([.pointer (some ⟨4, 0, none⟩)] ++ svs 116 9 ++ [.chan (some 3)])) false⟩, ⟨7, 3, true, .mrow 47 3 false, .mrow 47 3 false⟩], [], sv 127⟩]), (17, [⟨[.pointer (some ⟨6, 0, none⟩)], 9, [], [⟨4, 0, false, .row 95 (.lst ([.chan (some 2)] ++ svs 103 13)) false, .row 95 (.lst ([.chan (some 2)] ++ svs 128 13)) false⟩, ⟨5, 1, false, .orow 114 2 false, .orow 114 5 false⟩, ⟨6, 2, false, .row 62 (.lst ([.pointer (some ⟨4, 0, none⟩)] ++ svs 116 9 ++ [.chan (some 3)])) false, .row 62 (.lst ([.pointer (some ⟨4, 0, none⟩)] ++ svs 141 9 ++ [.chan (some 5)])) false⟩, ⟨7, 3, false, .mrow 47 3 false, .mrow 47 6 false⟩], [], .int .i64 0⟩]), (24, [⟨[.pointer (some ⟨6, 0, none⟩)], 9, [(4, 0)], [⟨6, 2, true, .row 62 (.lst ([.pointer (some ⟨4, 0, none⟩)] ++ svs 141 9 ++ [.chan (some 5)])) false, .row 62 (.lst ([.pointer (some ⟨4, 0, none⟩)] ++ svs 141 9 ++ [.chan (some 5)])) false⟩, ⟨7, 3, true, .mrow 47 6 false, .mrow 47 6 false⟩], [], sv 149⟩]), (18, [⟨[.pointer (some ⟨6, 0, none⟩), sv 150], 9, [], [⟨4, 0, false, .row 95 (.lst ([.chan (some 2)] ++ svs 128 13)) false, .row 95 (.lst ([.chan (some 2)] ++ svs 151 13)) false⟩, ⟨5, 1, false, .orow 114 5 false, .orow 114 7 false⟩, ⟨6, 2, false, .row 62 (.lst ([.pointer (some ⟨4, 0, none⟩)] ++ svs 141 9 ++ [.chan (some 5)])) false, .row 62 (.lst ([.pointer (some ⟨4, 0, none⟩)] ++ svs 164 9 ++ [.chan (some 6)])) false⟩, ⟨7, 3, false, .mrow 47 6 false, .dead⟩], [(4, .mrow 47 8 false)], .int .i64 0⟩]), (20, [⟨[.pointer (some ⟨6, 0, none⟩), .int .i64 0, .agg (svs 173 97).toArray], 10, [(4, 0)], [⟨6, 2, false, .row 62 (.lst ([.pointer (some ⟨4, 0, none⟩)] ++ svs 164 9 ++ [.chan (some 6)])) false, .row 62 (.lst ([.pointer (some ⟨4, 0, none⟩)] ++ svs 270 9 ++ [.chan (some 8)])) false⟩, ⟨9, 3, false, .mrow 47 8 false, .mrow 47 9 false⟩], [], .tuple #[.int .i64 0, .int .i64 2]⟩])] ⟨asLen u49 rfl (by kernel_rfl), qT (((i : Int)) < ((F.length : Int))) (by omega), eT (roomM l) (0) (by omega), aq (.int .i64 (((flL l).flushed) + (1))) (.int .i64 (IntKind.i64.wrap (((flL l).flushed) + (1)))) (wVi64 (((flL l).flushed) + (1)) (by omega) (by omega)), asIxaM u49 z41 rfl (by omega) rfl (by omega) (by omega) rfl rfl, aq (.int .i64 (((i : Int)) + (1))) (.int .i64 (IntKind.i64.wrap (((i : Int)) + (1)))) (wVi64 (((i : Int)) + (1)) (by omega) (by omega)), trivial⟩ ⟨ldE verV_len a41 z41 (by omega) rfl rfl (by kernel_rfl), trivial⟩ trivial ⟨oe (room_ctr hl), oe hflush, oe hfl, oe hcut, oe happ, trivial⟩ 18 [(0, 0), (1, 1), (2, 2), (3, 3), (4, 4), (5, 5), (6, 6), (9, 7)] hg
theorem t_e (hi : F.length ≤ i) (hflush : Ctr Try.prog 17 [pt 2 0] (devH d false ++ logA l 3 false) (iv 0) (devH (flW l d) false ++ logA (flL l) 3 false))
    (hg : GT2 T2 A j T cT cut v (flW l d) (flL l) M M.length 0) : GT T1 T2 A j F T cF cT cut v d l M i := by
  · exact gS (denQ (jobL j ++ [.int .i64 (cut)] ++ verV v ++ devC d ++ logC l ++ [.int .i64 ((i : Int)), .int .i64 ((F.length : Int))] ++ devC (flW l d) ++ logC (flL l) ++ [.int .i64 ((M.length : Int))]) (by kernel_rfl) [oa 0 F.length cF, oa 1 T.length cT, .v (.slice (some ⟨5, 0, none⟩) d.n d.n), ow 7 l.L.length INF, om 8 M.length INF, ow 7 (flL l).L.length INF] rfl [enc verV F, enc verV T, enc secL d.S, enc recL l.L, enc recL M, enc secL (flW l d).S, enc recL (flL l).L] (PL.cons (enc_plain verV_plain _) (PL.cons (enc_plain verV_plain _) (PL.cons (enc_plain secL_plain _) (PL.cons (enc_plain recL_plain _) (PL.cons (enc_plain recL_plain _) (PL.cons (enc_plain secL_plain _) (PL.cons (enc_plain recL_plain _) no_rows)))))))) (dT2 j T cT cut v (flW l d) (flL l) M M.length 0) ⟨[(.len 49 (.chan (some 0)), sv 126), (.bin .lss 3 (sv 125) (sv 126), .bool false), (.len 43 (.chan (some 4)), sv 149)], [], []⟩ [(17, [⟨[.pointer (some ⟨6, 0, none⟩)], 9, [], [⟨4, 0, false, .row 95 (.lst ([.chan (some 2)] ++ svs 103 13)) false, .row 95 (.lst ([.chan (some 2)] ++ svs 127 13)) false⟩, ⟨5, 1, false, .orow 114 2 false, .orow 114 5 false⟩, ⟨6, 2, false, .row 62 (.lst ([.pointer (some ⟨4, 0, none⟩)] ++ svs 116 9 ++ [.chan (some 3)])) false, .row 62 (.lst ([.pointer (some ⟨4, 0, none⟩)] ++ svs 140 9 ++ [.chan (some 5)])) false⟩, ⟨7, 3, false, .mrow 47 3 false, .mrow 47 6 false⟩], [], .int .i64 0⟩])] ⟨asLen u49 rfl (by kernel_rfl), qF (((i : Int)) < ((F.length : Int))) (by omega), asLen u43 rfl (by kernel_rfl), trivial⟩ trivial trivial ⟨oe hflush, trivial⟩ 16 [(1, 1), (2, 2), (3, 3), (4, 4), (5, 5), (6, 6), (7, 7), (8, 8)] hg
variable {sure : Nat}
theorem u_a (hi : i < T.length) (hT : T.length ≤ 60) (hM : M.length ≤ 1000) (happ : Ctr Try.prog 20 [pt 2 0, iv 0, .agg (verV (gt T i)).toArray] (logR l 3 false) (.tuple #[iv (l.start + l.L.length), iv 0]) [(2, .row 62 (.lst (logRow (apM l 0 (gt T i)) 4)) false), (3, .dead), (4, rowOr 47 (enc recL (apM l 0 (gt T i)).L) false), (0, .dead)])
    (hg : GT2 T2 A j T cT cut v d (apM l 0 (gt T i)) (M ++ [rN (l.start + l.L.length) (gt T i)]) sure (i + 1)) : GT2 T2 A j T cT cut v d l M sure i := by
  · exact gS (denQ (jobL j ++ [.int .i64 (cut)] ++ verV v ++ devC d ++ logC l ++ [.int .i64 ((sure : Int)), .int .i64 ((i : Int)), .int .i64 ((T.length : Int))] ++ verV (gt T (((i : Int)) : Int).toNat) ++ logC (apM l 0 (gt T i)) ++ [.int .i64 ((l.start + l.L.length)), .int .i64 (((gt T (((i : Int)) : Int).toNat).psn))] ++ bodL (gt T (((i : Int)) : Int).toNat).body ++ [.int .i64 (((i : Int)) + (1))]) (by kernel_rfl) [oa 1 T.length cT, .v (.slice (some ⟨5, 0, none⟩) d.n d.n), ow 7 l.L.length INF, om 8 M.length INF, .v (.pointer (some ⟨1, 0 + (((i : Int)) : Int).toNat * 97, none⟩)), ow 9 (apM l 0 (gt T i)).L.length INF, .v (.pointer (some ⟨1, 0 + (((i : Int)) : Int).toNat * 97 + 0, none⟩)), .v (.pointer (some ⟨1, 0 + (((i : Int)) : Int).toNat * 97 + 1, none⟩)), om 11 (M ++ [(rN (l.start + l.L.length) (gt T i))]).length INF] rfl [enc verV T, enc secL d.S, enc recL l.L, enc recL M, enc recL (apM l 0 (gt T i)).L, enc recL (M ++ [(rN (l.start + l.L.length) (gt T i))])] (PL.cons (enc_plain verV_plain _) (PL.cons (enc_plain secL_plain _) (PL.cons (enc_plain recL_plain _) (PL.cons (enc_plain recL_plain _) (PL.cons (enc_plain recL_plain _) (PL.cons (enc_plain recL_plain _) no_rows))))))) (dT2 j T cT cut v d (apM l 0 (gt T i)) (M ++ [(rN (l.start + l.L.length) (gt T i))]) sure (i + 1)) ⟨[(.len 49 (.chan (some 0)), sv 127), (.bin .lss 3 (sv 126) (sv 127), .bool true), (.ixa 49 (.chan (some 0)) (sv 126), .chan (some 4)), (.fa 41 (.chan (some 4)) 0, .chan (some 6)), (.fa 41 (.chan (some 4)) 1, .chan (some 7)), (.bin .add 3 (sv 126) (.int .i64 1), sv 332)], [⟨41, 4, 1, 0, vA 128 97⟩, ⟨2, 6, 1, 0, sv 235⟩, ⟨39, 7, 1, 0, vA 236 96⟩], [([43, 43], ⟨[.chan (some 3), .slice (some ⟨10, 0, none⟩) 1 1], 11, [], [⟨8, 0, false, .mrow 47 3 false, .dead⟩, ⟨10, 1, true, .row 47 (.lst ([.int .i64 1, .int .i64 1, sv 234, .int .i64 0] ++ svs 235 97)) false, .row 47 (.lst ([.int .i64 1, .int .i64 1, sv 234, .int .i64 0] ++ svs 235 97)) false⟩], [(2, .mrow 47 5 false)], .chan (some 8)⟩)]⟩ [(20, [⟨[.pointer (some ⟨6, 0, none⟩), .int .i64 0, .agg (svs 128 97).toArray], 9, [(4, 0)], [⟨6, 2, false, .row 62 (.lst ([.pointer (some ⟨4, 0, none⟩)] ++ svs 116 9 ++ [.chan (some 2)])) false, .row 62 (.lst ([.pointer (some ⟨4, 0, none⟩)] ++ svs 225 9 ++ [.chan (some 5)])) false⟩, ⟨7, 3, false, .mrow 47 2 false, .dead⟩], [(4, .mrow 47 4 false)], .tuple #[sv 234, .int .i64 0]⟩])] ⟨asLen u49 rfl (by kernel_rfl), qT (((i : Int)) < ((T.length : Int))) (by omega), asIxaM u49 z41 rfl (by omega) rfl (by omega) (by omega) rfl rfl, asm_fa (by kernel_rfl), asm_fa (by kernel_rfl), aq (.int .i64 (((i : Int)) + (1))) (.int .i64 (IntKind.i64.wrap (((i : Int)) + (1)))) (wVi64 (((i : Int)) + (1)) (by omega) (by omega)), trivial⟩ ⟨ldE verV_len a41 z41 (by omega) rfl rfl (by kernel_rfl), ldG verV_len (S := T) (c := 0) (i := (((i : Int)) : Int).toNat) (by omega) (by decide) a2 rfl rfl rfl (by kernel_rfl), ldB verV_len verV_body (S := T) (c := 1) (i := (((i : Int)) : Int).toNat) (by omega) (by decide) rfl rfl (by kernel_rfl), trivial⟩ ⟨ap (appR (z := 0) M (rN (l.start + l.L.length) (gt T i)) 1 (by omega)), trivial⟩ ⟨oe happ, trivial⟩ 14 [(1, 1), (2, 2), (3, 3), (4, 4), (5, 5), (6, 6), (9, 7), (11, 8)] hg
theorem u_b (hi : i < T.length) (hT : T.length ≤ 60) (happ : Ctr Try.prog 20 [pt 2 0, iv 0, .agg (verV (gt T i)).toArray] (logR l 3 false) (.tuple #[iv 0, iv 2]) (logR l 3 false)) (hg : GT2 T2 A j T cT cut v d l M sure (i + 1)) : GT2 T2 A j T cT cut v d l M sure i := by
  · exact gS (denQ (jobL j ++ [.int .i64 (cut)] ++ verV v ++ devC d ++ logC l ++ [.int .i64 ((sure : Int)), .int .i64 ((i : Int)), .int .i64 ((T.length : Int))] ++ verV (gt T (((i : Int)) : Int).toNat) ++ logC l ++ [.int .i64 (((i : Int)) + (1))]) (by kernel_rfl) [oa 1 T.length cT, .v (.slice (some ⟨5, 0, none⟩) d.n d.n), ow 7 l.L.length INF, om 8 M.length INF, .v (.pointer (some ⟨1, 0 + (((i : Int)) : Int).toNat * 97, none⟩)), ow 7 l.L.length INF] rfl [enc verV T, enc secL d.S, enc recL l.L, enc recL M, enc recL l.L] (PL.cons (enc_plain verV_plain _) (PL.cons (enc_plain secL_plain _) (PL.cons (enc_plain recL_plain _) (PL.cons (enc_plain recL_plain _) (PL.cons (enc_plain recL_plain _) no_rows)))))) (dT2 j T cT cut v d l M sure (i + 1)) ⟨[(.len 49 (.chan (some 0)), sv 127), (.bin .lss 3 (sv 126) (sv 127), .bool true), (.ixa 49 (.chan (some 0)) (sv 126), .chan (some 4)), (.bin .add 3 (sv 126) (.int .i64 1), sv 234)], [⟨41, 4, 1, 0, vA 128 97⟩], []⟩ [(20, [⟨[.pointer (some ⟨6, 0, none⟩), .int .i64 0, .agg (svs 128 97).toArray], 9, [(4, 0)], [⟨6, 2, false, .row 62 (.lst ([.pointer (some ⟨4, 0, none⟩)] ++ svs 116 9 ++ [.chan (some 2)])) false, .row 62 (.lst ([.pointer (some ⟨4, 0, none⟩)] ++ svs 225 9 ++ [.chan (some 5)])) false⟩, ⟨7, 3, false, .mrow 47 2 false, .mrow 47 4 false⟩], [], .tuple #[.int .i64 0, .int .i64 2]⟩])] ⟨asLen u49 rfl (by kernel_rfl), qT (((i : Int)) < ((T.length : Int))) (by omega), asIxaM u49 z41 rfl (by omega) rfl (by omega) (by omega) rfl rfl, aq (.int .i64 (((i : Int)) + (1))) (.int .i64 (IntKind.i64.wrap (((i : Int)) + (1)))) (wVi64 (((i : Int)) + (1)) (by omega) (by omega)), trivial⟩ ⟨ldE verV_len a41 z41 (by omega) rfl rfl (by kernel_rfl), trivial⟩ trivial ⟨oe happ, trivial⟩ 14 [(1, 1), (2, 2), (3, 3), (4, 4), (5, 5), (6, 6), (7, 7), (8, 8)] hg
theorem u_f (hi : i < T.length) (hT : T.length ≤ 60) (happ : Ctr Try.prog 20 [pt 2 0, iv 0, .agg (verV (gt T i)).toArray] (logR l 3 false) (.tuple #[iv 0, iv 5]) (logR l 3 false)) (hg : GT2 T2 A j T cT cut v d l M sure (i + 1)) : GT2 T2 A j T cT cut v d l M sure i := by
  · exact gS (denQ (jobL j ++ [.int .i64 (cut)] ++ verV v ++ devC d ++ logC l ++ [.int .i64 ((sure : Int)), .int .i64 ((i : Int)), .int .i64 ((T.length : Int))] ++ verV (gt T (((i : Int)) : Int).toNat) ++ logC l ++ [.int .i64 (((i : Int)) + (1))]) (by kernel_rfl) [oa 1 T.length cT, .v (.slice (some ⟨5, 0, none⟩) d.n d.n), ow 7 l.L.length INF, om 8 M.length INF, .v (.pointer (some ⟨1, 0 + (((i : Int)) : Int).toNat * 97, none⟩)), ow 7 l.L.length INF] rfl [enc verV T, enc secL d.S, enc recL l.L, enc recL M, enc recL l.L] (PL.cons (enc_plain verV_plain _) (PL.cons (enc_plain secL_plain _) (PL.cons (enc_plain recL_plain _) (PL.cons (enc_plain recL_plain _) (PL.cons (enc_plain recL_plain _) no_rows)))))) (dT2 j T cT cut v d l M sure (i + 1)) ⟨[(.len 49 (.chan (some 0)), sv 127), (.bin .lss 3 (sv 126) (sv 127), .bool true), (.ixa 49 (.chan (some 0)) (sv 126), .chan (some 4)), (.bin .add 3 (sv 126) (.int .i64 1), sv 234)], [⟨41, 4, 1, 0, vA 128 97⟩], []⟩ [(20, [⟨[.pointer (some ⟨6, 0, none⟩), .int .i64 0, .agg (svs 128 97).toArray], 9, [(4, 0)], [⟨6, 2, false, .row 62 (.lst ([.pointer (some ⟨4, 0, none⟩)] ++ svs 116 9 ++ [.chan (some 2)])) false, .row 62 (.lst ([.pointer (some ⟨4, 0, none⟩)] ++ svs 225 9 ++ [.chan (some 5)])) false⟩, ⟨7, 3, false, .mrow 47 2 false, .mrow 47 4 false⟩], [], .tuple #[.int .i64 0, .int .i64 5]⟩])] ⟨asLen u49 rfl (by kernel_rfl), qT (((i : Int)) < ((T.length : Int))) (by omega), asIxaM u49 z41 rfl (by omega) rfl (by omega) (by omega) rfl rfl, aq (.int .i64 (((i : Int)) + (1))) (.int .i64 (IntKind.i64.wrap (((i : Int)) + (1)))) (wVi64 (((i : Int)) + (1)) (by omega) (by omega)), trivial⟩ ⟨ldE verV_len a41 z41 (by omega) rfl rfl (by kernel_rfl), trivial⟩ trivial ⟨oe happ, trivial⟩ 14 [(1, 1), (2, 2), (3, 3), (4, 4), (5, 5), (6, 6), (7, 7), (8, 8)] hg
variable {m : Lo} {X : List Rec} {ep s : Int}
theorem u_e (hi : T.length ≤ i) (_hM : M.length ≤ 1000) (hsu : sure ≤ 1000) (hc : 0 ≤ cut ∧ cut ≤ 1000) (hdcut : Ctr Try.prog 25 [pt 0 0, iv cut] (devH d false) (iv 0) (devH (tC d cut) false)) (hflush : Ctr Try.prog 17 [pt 2 0] (devH (tC d cut) false ++ logA l 3 false) (iv 0) (devH (flW l (tC d cut)) false ++ logA (flL l) 3 false))
    (hwhole : Ctr Try.prog 26 [pt 0 0] (devH (flW l (tC d cut)) false) (.bool (!(flW l (tC d cut)).lost)) (devH (tW (flW l (tC d cut))) false)) (hup : Ctr Try.prog 27 [pt 0 0, iv 1] (devH (tW (flW l (tC d cut))) false) (.tuple #[iv ep, iv 0]) (devH (tU (tW (flW l (tC d cut)))) false)) (hopen : Ctr Try.prog 15 [pt 0 0, jobV j, iv 1, iv ep] (devH (tU (tW (flW l (tC d cut)))) false) (.tuple #[pt 2 0, iv 0]) (devH (tU (tW (flW l (tC d cut)))) false ++ logA m 3 false))
    (hread : Ctr Try.prog 22 [pt 0 0, jobV j, iv 1] (devH (tU (tW (flW l (tC d cut)))) true) (.tuple #[iv s, mSl 2 X.length INF 0, iv 0]) [(2, rowOr 47 (enc recL X) false)]) (hstart : Ctr Try.prog 28 [pt 2 0] (logR (flL l) 3 true) (iv (flL l).start) [(0, .dead)])
    (h1 : sure ≤ X.length) (h2 : (X.length : Int) = min (M.length : Int) ((sure : Int) + cut / 2)) (h3 : s = (flL l).start) (hg : GT3 A j v (tU (tW (flW l (tC d cut)))) m M X ep s 0) : GT2 T2 A j T cT cut v d l M sure i := by
  · exact gS (denQ (jobL j ++ [.int .i64 (cut)] ++ verV v ++ devC d ++ logC l ++ [.int .i64 ((sure : Int)), .int .i64 ((i : Int)), .int .i64 ((T.length : Int))] ++ devC (tC d cut) ++ devC (flW l (tC d cut)) ++ logC (flL l) ++ devC (tW (flW l (tC d cut))) ++ [.bool (!(flW l (tC d cut)).lost)] ++ devC (tU (tW (flW l (tC d cut)))) ++ [.int .i64 (ep)] ++ devC (tU (tW (flW l (tC d cut)))) ++ logC m ++ [.int .i64 (s), .int .i64 ((X.length : Int)), .int .i64 ((M.length : Int)), .int .i64 ((cut) / (2)), .int .i64 (((sure : Int)) + ((cut) / (2))), .int .i64 (min ((M.length : Int)) (((sure : Int)) + ((cut) / (2))))]) (by kernel_rfl) [oa 1 T.length cT, .v (.slice (some ⟨5, 0, none⟩) d.n d.n), ow 7 l.L.length INF, om 8 M.length INF, ow 7 (flL l).L.length INF, ow 10 m.L.length INF, om 11 X.length INF] rfl [enc verV T, enc secL d.S, enc recL l.L, enc recL M, enc secL (tC d cut).S, enc secL (flW l (tC d cut)).S, enc recL (flL l).L, enc secL (tW (flW l (tC d cut))).S, enc secL (tU (tW (flW l (tC d cut)))).S, enc secL (tU (tW (flW l (tC d cut)))).S, enc recL m.L, enc recL X] (PL.cons (enc_plain verV_plain _) (PL.cons (enc_plain secL_plain _) (PL.cons (enc_plain recL_plain _) (PL.cons (enc_plain recL_plain _) (PL.cons (enc_plain secL_plain _) (PL.cons (enc_plain secL_plain _) (PL.cons (enc_plain recL_plain _) (PL.cons (enc_plain secL_plain _) (PL.cons (enc_plain secL_plain _) (PL.cons (enc_plain secL_plain _) (PL.cons (enc_plain recL_plain _) (PL.cons (enc_plain recL_plain _) no_rows))))))))))))) (dT3 j v (tU (tW (flW l (tC d cut)))) m M X ep s 0) ⟨[(.len 49 (.chan (some 0)), sv 127), (.bin .lss 3 (sv 126) (sv 127), .bool false), (.len 43 (.chan (some 6)), sv 214), (.bin .lss 3 (sv 214) (sv 125), .bool false), (.len 43 (.chan (some 3)), sv 215), (.bin .gtr 3 (sv 214) (sv 215), .bool false), (.bin .quo 3 (sv 5) (.int .i64 2), sv 216), (.bin .add 3 (sv 125) (sv 216), sv 217), (.mm false (sv 215) (sv 217), sv 218), (.bin .neq 3 (sv 214) (sv 218), .bool false), (.bin .neq 2 (sv 213) (sv 161), .bool false)], [], []⟩ [(25, [⟨[.pointer (some ⟨4, 0, none⟩), sv 5], 9, [], [⟨4, 0, false, .row 95 (.lst ([.chan (some 1)] ++ svs 103 13)) false, .row 95 (.lst ([.chan (some 1)] ++ svs 128 13)) false⟩, ⟨5, 1, false, .orow 114 1 false, .orow 114 4 false⟩], [], .int .i64 0⟩]), (17, [⟨[.pointer (some ⟨6, 0, none⟩)], 9, [], [⟨4, 0, false, .row 95 (.lst ([.chan (some 1)] ++ svs 128 13)) false, .row 95 (.lst ([.chan (some 1)] ++ svs 141 13)) false⟩, ⟨5, 1, false, .orow 114 4 false, .orow 114 5 false⟩, ⟨6, 2, false, .row 62 (.lst ([.pointer (some ⟨4, 0, none⟩)] ++ svs 116 9 ++ [.chan (some 2)])) false, .row 62 (.lst ([.pointer (some ⟨4, 0, none⟩)] ++ svs 154 9 ++ [.chan (some 4)])) false⟩, ⟨7, 3, false, .mrow 47 2 false, .mrow 47 6 false⟩], [], .int .i64 0⟩]), (26, [⟨[.pointer (some ⟨4, 0, none⟩)], 9, [], [⟨4, 0, false, .row 95 (.lst ([.chan (some 1)] ++ svs 141 13)) false, .row 95 (.lst ([.chan (some 1)] ++ svs 163 13)) false⟩, ⟨5, 1, false, .orow 114 5 false, .orow 114 7 false⟩], [], sv 176⟩]), (27, [⟨[.pointer (some ⟨4, 0, none⟩), .int .i64 1], 9, [], [⟨4, 0, false, .row 95 (.lst ([.chan (some 1)] ++ svs 163 13)) false, .row 95 (.lst ([.chan (some 1)] ++ svs 177 13)) false⟩, ⟨5, 1, false, .orow 114 7 false, .orow 114 8 false⟩], [], .tuple #[sv 190, .int .i64 0]⟩]), (15, [⟨[.pointer (some ⟨4, 0, none⟩), .agg #[sv 0, sv 1, sv 2, sv 3, sv 4], .int .i64 1, sv 190], 9, [], [⟨4, 0, false, .row 95 (.lst ([.chan (some 1)] ++ svs 177 13)) false, .row 95 (.lst ([.chan (some 1)] ++ svs 191 13)) false⟩, ⟨5, 1, false, .orow 114 8 false, .orow 114 9 false⟩], [(2, .row 62 (.lst ([.pointer (some ⟨4, 0, none⟩)] ++ svs 204 9 ++ [.chan (some 5)])) false), (3, .mrow 47 10 false)], .tuple #[.pointer (some ⟨9, 0, none⟩), .int .i64 0]⟩]), (22, [⟨[.pointer (some ⟨4, 0, none⟩), .agg #[sv 0, sv 1, sv 2, sv 3, sv 4], .int .i64 1], 11, [], [⟨4, 0, true, .row 95 (.lst ([.chan (some 1)] ++ svs 191 13)) false, .row 95 (.lst ([.chan (some 1)] ++ svs 191 13)) false⟩, ⟨5, 1, true, .orow 114 9 false, .orow 114 9 false⟩], [(2, .mrow 47 11 false)], .tuple #[sv 213, .chan (some 6), .int .i64 0]⟩]), (28, [⟨[.pointer (some ⟨6, 0, none⟩)], 12, [(4, 0)], [⟨6, 2, true, .row 62 (.lst ([.pointer (some ⟨4, 0, none⟩)] ++ svs 154 9 ++ [.chan (some 4)])) false, .row 62 (.lst ([.pointer (some ⟨4, 0, none⟩)] ++ svs 154 9 ++ [.chan (some 4)])) false⟩, ⟨7, 3, true, .mrow 47 6 false, .mrow 47 6 false⟩], [], sv 161⟩])] ⟨asLen u49 rfl (by kernel_rfl), qF (((i : Int)) < ((T.length : Int))) (by omega), asLen u43 rfl (by kernel_rfl), qF (((X.length : Int)) < ((sure : Int))) (by omega), asLen u43 rfl (by kernel_rfl), qF (((X.length : Int)) > ((M.length : Int))) (by omega), aq (.int .i64 ((cut) / (2))) (.int .i64 (IntKind.i64.wrap (Int.tdiv (cut) (2)))) (quoVi64 (cut) (2) (by omega) (by omega) (by omega)), aq (.int .i64 (((sure : Int)) + ((cut) / (2)))) (.int .i64 (IntKind.i64.wrap (((sure : Int)) + ((cut) / (2))))) (wVi64 (((sure : Int)) + ((cut) / (2))) (by omega) (by omega)), aq (.int .i64 (min ((M.length : Int)) (((sure : Int)) + ((cut) / (2))))) (.int .i64 (if (((sure : Int)) + ((cut) / (2))) < ((M.length : Int)) then (((sure : Int)) + ((cut) / (2))) else ((M.length : Int)))) (mnV ((M.length : Int)) (((sure : Int)) + ((cut) / (2)))), nF ((X.length : Int)) (min ((M.length : Int)) (((sure : Int)) + ((cut) / (2)))) (by omega), nF (s) ((flL l).start) (by omega), trivial⟩ trivial trivial ⟨oe hdcut, oe hflush, oe hwhole, oe hup, oe hopen, oe hread, oe hstart, trivial⟩ 28 [(2, 2), (3, 3), (4, 4), (5, 5), (9, 6), (10, 7), (8, 8), (11, 9)] hg
variable {t : Nat}
theorem w_s (ht : t < X.length) (hX : X.length ≤ M.length) (hX2 : X.length ≤ 1000) (heq : eqR (gt X t) (gt M t) = true) (hg : GT3 A j v d m M X ep s (t + 1)) : GT3 A j v d m M X ep s t := by
  · exact gS (denQ (jobL j ++ verV v ++ devC d ++ logC m ++ [.int .i64 (ep), .int .i64 (s), .int .i64 ((t : Int)), .int .i64 ((X.length : Int))] ++ recL (gt X (((t : Int)) : Int).toNat) ++ recL (gt M (((t : Int)) : Int).toNat) ++ [.int .i64 (((t : Int)) + (1))]) (by kernel_rfl) [.v (.slice (some ⟨5, 0, none⟩) d.n d.n), ow 7 m.L.length INF, om 8 M.length INF, om 9 X.length INF, .v (.pointer (some ⟨9, 0 + (((t : Int)) : Int).toNat * 101, none⟩)), .v (.pointer (some ⟨8, 0 + (((t : Int)) : Int).toNat * 101, none⟩))] rfl [enc secL d.S, enc recL m.L, enc recL M, enc recL X] (PL.cons (enc_plain secL_plain _) (PL.cons (enc_plain recL_plain _) (PL.cons (enc_plain recL_plain _) (PL.cons (enc_plain recL_plain _) no_rows))))) (dT3 j v d m M X ep s (t + 1)) ⟨[(.len 43 (.chan (some 3)), sv 127), (.bin .lss 3 (sv 126) (sv 127), .bool true), (.ixa 43 (.chan (some 3)) (sv 126), .chan (some 4)), (.ixa 43 (.chan (some 2)) (sv 126), .chan (some 5)), (.bin .neq 47 (.agg (svs 128 101).toArray) (.agg (svs 229 101).toArray), .bool false), (.bin .add 3 (sv 126) (.int .i64 1), sv 330)], [⟨47, 4, 9, 3, vA 128 101⟩, ⟨47, 5, 8, 2, vA 229 101⟩], []⟩ [] ⟨asLen u43 rfl (by kernel_rfl), qT (((t : Int)) < ((X.length : Int))) (by omega), asIxaM u43 z47 rfl (by omega) rfl (by omega) (by omega) rfl rfl, asIxaM u43 z47 rfl (by omega) rfl (by omega) (by omega) rfl rfl, aN1 (eqR (gt X ((t : Int) : Int).toNat) (gt M ((t : Int) : Int).toNat)) (heq), aq (.int .i64 (((t : Int)) + (1))) (.int .i64 (IntKind.i64.wrap (((t : Int)) + (1)))) (wVi64 (((t : Int)) + (1)) (by omega) (by omega)), trivial⟩ ⟨ldE recL_len a47 z47 (by omega) rfl rfl (by kernel_rfl), ldE recL_len a47 z47 (by omega) rfl rfl (by kernel_rfl), trivial⟩ trivial trivial 12 [(2, 2), (3, 3), (4, 4), (5, 5), (6, 6), (7, 7), (8, 8), (9, 9)] hg
variable {Y : List Rec} {s2 : Int}
theorem w_a (ht : X.length ≤ t) (hX2 : X.length ≤ 1000) (hs : s = m.start) (hsb : 0 ≤ s ∧ s ≤ 2147483647) (hX : X.length = m.L.length) (happ : Ctr Try.prog 20 [pt 2 0, iv 0, .agg (verV v).toArray] (logR m 3 false) (.tuple #[iv (m.start + m.L.length), iv 0]) [(2, .row 62 (.lst (logRow (apM m 0 v) 4)) false), (3, .dead), (4, rowOr 47 (enc recL (apM m 0 v).L) false), (0, .dead)]) (hflush : Ctr Try.prog 17 [pt 2 0] (devH d false ++ logA (apM m 0 v) 3 false) (iv 0) (devH (flW (apM m 0 v) d) false ++ logA (flL (apM m 0 v)) 3 false))
    (hread : Ctr Try.prog 22 [pt 0 0, jobV j, iv 1] (devH (flW (apM m 0 v) d) true) (.tuple #[iv s2, mSl 2 Y.length INF 0, iv 0]) [(2, rowOr 47 (enc recL Y) false)]) (hY : Y.length = X.length + 1) (heq : eqN (gt Y X.length).body v.body 96 0 = true) (hep : (gt Y X.length).epoch = ep) : GT3 A j v d m M X ep s t := by
  have hep' : (gt Y ((X.length : Int)).toNat).epoch = ep := hep
  · exact gF (denQ (jobL j ++ verV v ++ devC d ++ logC m ++ [.int .i64 (ep), .int .i64 (s), .int .i64 ((t : Int)), .int .i64 ((X.length : Int))] ++ logC (apM m 0 v) ++ [.int .i64 ((m.start + m.L.length)), .int .i64 ((s) + ((X.length : Int)))] ++ devC (flW (apM m 0 v) d) ++ logC (flL (apM m 0 v)) ++ [.int .i64 (s2), .int .i64 ((Y.length : Int)), .int .i64 (((X.length : Int)) + (1))] ++ bodL (gt Y (((X.length : Int)) : Int).toNat).body ++ [.int .i64 (((gt Y (((X.length : Int)) : Int).toNat).epoch))]) (by kernel_rfl) [.v (.slice (some ⟨5, 0, none⟩) d.n d.n), ow 7 m.L.length INF, om 8 M.length INF, om 9 X.length INF, ow 10 (apM m 0 v).L.length INF, ow 10 (flL (apM m 0 v)).L.length INF, om 11 Y.length INF, .v (.pointer (some ⟨11, 0 + (((X.length : Int)) : Int).toNat * 101, none⟩)), .v (.pointer (some ⟨11, 0 + (((X.length : Int)) : Int).toNat * 101 + 5, none⟩)), .v (.pointer (some ⟨11, 0 + (((X.length : Int)) : Int).toNat * 101 + 1, none⟩))] rfl [enc secL d.S, enc recL m.L, enc recL M, enc recL X, enc recL (apM m 0 v).L, enc secL (flW (apM m 0 v) d).S, enc recL (flL (apM m 0 v)).L, enc recL Y] (PL.cons (enc_plain secL_plain _) (PL.cons (enc_plain recL_plain _) (PL.cons (enc_plain recL_plain _) (PL.cons (enc_plain recL_plain _) (PL.cons (enc_plain recL_plain _) (PL.cons (enc_plain secL_plain _) (PL.cons (enc_plain recL_plain _) (PL.cons (enc_plain recL_plain _) no_rows))))))))) ⟨[(.len 43 (.chan (some 3)), sv 127), (.bin .lss 3 (sv 126) (sv 127), .bool false), (.bin .add 2 (sv 125) (sv 127), sv 138), (.bin .neq 2 (sv 137) (sv 138), .bool false), (.len 43 (.chan (some 6)), sv 162), (.bin .add 3 (sv 127) (.int .i64 1), sv 163), (.bin .eql 3 (sv 162) (sv 163), .bool true), (.ixa 43 (.chan (some 6)) (sv 127), .chan (some 7)), (.fa 47 (.chan (some 7)) 5, .chan (some 8)), (.bin .eql 39 (.agg (svs 164 96).toArray) (.agg (svs 6 96).toArray), .bool true), (.fa 47 (.chan (some 7)) 1, .chan (some 9)), (.bin .eql 2 (sv 260) (sv 124), .bool true)], [⟨39, 8, 11, 7, vA 164 96⟩, ⟨2, 9, 11, 7, sv 260⟩], []⟩ [(20, [⟨[.pointer (some ⟨6, 0, none⟩), .int .i64 0, .agg (svs 5 97).toArray], 10, [(4, 0)], [⟨6, 2, false, .row 62 (.lst ([.pointer (some ⟨4, 0, none⟩)] ++ svs 115 9 ++ [.chan (some 1)])) false, .row 62 (.lst ([.pointer (some ⟨4, 0, none⟩)] ++ svs 128 9 ++ [.chan (some 4)])) false⟩, ⟨7, 3, false, .mrow 47 1 false, .dead⟩], [(4, .mrow 47 4 false)], .tuple #[sv 137, .int .i64 0]⟩]), (17, [⟨[.pointer (some ⟨6, 0, none⟩)], 11, [], [⟨4, 0, false, .row 95 (.lst ([.chan (some 0)] ++ svs 102 13)) false, .row 95 (.lst ([.chan (some 0)] ++ svs 139 13)) false⟩, ⟨5, 1, false, .orow 114 0 false, .orow 114 5 false⟩, ⟨6, 2, false, .row 62 (.lst ([.pointer (some ⟨4, 0, none⟩)] ++ svs 128 9 ++ [.chan (some 4)])) false, .row 62 (.lst ([.pointer (some ⟨4, 0, none⟩)] ++ svs 152 9 ++ [.chan (some 5)])) false⟩, ⟨10, 3, false, .mrow 47 4 false, .mrow 47 6 false⟩], [], .int .i64 0⟩]), (22, [⟨[.pointer (some ⟨4, 0, none⟩), .agg #[sv 0, sv 1, sv 2, sv 3, sv 4], .int .i64 1], 11, [], [⟨4, 0, true, .row 95 (.lst ([.chan (some 0)] ++ svs 139 13)) false, .row 95 (.lst ([.chan (some 0)] ++ svs 139 13)) false⟩, ⟨5, 1, true, .orow 114 5 false, .orow 114 5 false⟩], [(2, .mrow 47 7 false)], .tuple #[sv 161, .chan (some 6), .int .i64 0]⟩]), (12, [⟨[], 12, [], [], [], .bool true⟩])] ⟨asLen u43 rfl (by kernel_rfl), qF (((t : Int)) < ((X.length : Int))) (by omega), aq (.int .i64 ((s) + ((X.length : Int)))) (.int .i64 (IntKind.i64.wrap ((s) + ((X.length : Int))))) (wVi64 ((s) + ((X.length : Int))) (by omega) (by omega)), nF ((m.start + m.L.length)) ((s) + ((X.length : Int))) (by omega), asLen u43 rfl (by kernel_rfl), aq (.int .i64 (((X.length : Int)) + (1))) (.int .i64 (IntKind.i64.wrap (((X.length : Int)) + (1)))) (wVi64 (((X.length : Int)) + (1)) (by omega) (by omega)), eT ((Y.length : Int)) (((X.length : Int)) + (1)) (by omega), asIxaM u43 z47 rfl (by omega) rfl (by omega) (by omega) rfl rfl, asm_fa (by kernel_rfl), aE1 (eqN (gt Y (X.length : Int).toNat).body v.body 96 0) (heq), asm_fa (by kernel_rfl), eT (((gt Y (((X.length : Int)) : Int).toNat).epoch)) (ep) (by omega), trivial⟩ ⟨ldB recL_len recL_body (S := Y) (c := 5) (i := (((X.length : Int)) : Int).toNat) (by omega) (by decide) rfl rfl (by kernel_rfl), ldG recL_len (S := Y) (c := 1) (i := (((X.length : Int)) : Int).toNat) (by omega) (by decide) a2 rfl rfl rfl (by kernel_rfl), trivial⟩ trivial ⟨oe happ, oe hflush, oe hread, oe known_ctr, trivial⟩ 18 []
theorem w_b (ht : X.length ≤ t) (happ : Ctr Try.prog 20 [pt 2 0, iv 0, .agg (verV v).toArray] (logR m 3 false) (.tuple #[iv 0, iv 2]) (logR m 3 false)) (hread : Ctr Try.prog 22 [pt 0 0, jobV j, iv 1] (devH d true) (.tuple #[iv s2, mSl 2 Y.length INF 0, iv 0]) [(2, rowOr 47 (enc recL Y) false)]) (hY : Y.length = X.length) : GT3 A j v d m M X ep s t := by
  · exact gF (denQ (jobL j ++ verV v ++ devC d ++ logC m ++ [.int .i64 (ep), .int .i64 (s), .int .i64 ((t : Int)), .int .i64 ((X.length : Int))] ++ logC m ++ [.int .i64 (s2), .int .i64 ((Y.length : Int))]) (by kernel_rfl) [.v (.slice (some ⟨5, 0, none⟩) d.n d.n), ow 7 m.L.length INF, om 8 M.length INF, om 9 X.length INF, ow 7 m.L.length INF, om 10 Y.length INF] rfl [enc secL d.S, enc recL m.L, enc recL M, enc recL X, enc recL m.L, enc recL Y] (PL.cons (enc_plain secL_plain _) (PL.cons (enc_plain recL_plain _) (PL.cons (enc_plain recL_plain _) (PL.cons (enc_plain recL_plain _) (PL.cons (enc_plain recL_plain _) (PL.cons (enc_plain recL_plain _) no_rows))))))) ⟨[(.len 43 (.chan (some 3)), sv 127), (.bin .lss 3 (sv 126) (sv 127), .bool false), (.len 43 (.chan (some 5)), sv 138), (.bin .eql 3 (sv 138) (sv 127), .bool true)], [], []⟩ [(20, [⟨[.pointer (some ⟨6, 0, none⟩), .int .i64 0, .agg (svs 5 97).toArray], 10, [(4, 0)], [⟨6, 2, false, .row 62 (.lst ([.pointer (some ⟨4, 0, none⟩)] ++ svs 115 9 ++ [.chan (some 1)])) false, .row 62 (.lst ([.pointer (some ⟨4, 0, none⟩)] ++ svs 128 9 ++ [.chan (some 4)])) false⟩, ⟨7, 3, false, .mrow 47 1 false, .mrow 47 4 false⟩], [], .tuple #[.int .i64 0, .int .i64 2]⟩]), (22, [⟨[.pointer (some ⟨4, 0, none⟩), .agg #[sv 0, sv 1, sv 2, sv 3, sv 4], .int .i64 1], 10, [], [⟨4, 0, true, .row 95 (.lst ([.chan (some 0)] ++ svs 102 13)) false, .row 95 (.lst ([.chan (some 0)] ++ svs 102 13)) false⟩, ⟨5, 1, true, .orow 114 0 false, .orow 114 0 false⟩], [(2, .mrow 47 5 false)], .tuple #[sv 137, .chan (some 5), .int .i64 0]⟩]), (12, [⟨[], 11, [], [], [], .bool true⟩])] ⟨asLen u43 rfl (by kernel_rfl), qF (((t : Int)) < ((X.length : Int))) (by omega), asLen u43 rfl (by kernel_rfl), eT ((Y.length : Int)) ((X.length : Int)) (by omega), trivial⟩ trivial trivial ⟨oe happ, oe hread, oe known_ctr, trivial⟩ 18 []
theorem w_f (ht : X.length ≤ t) (happ : Ctr Try.prog 20 [pt 2 0, iv 0, .agg (verV v).toArray] (logR m 3 false) (.tuple #[iv 0, iv 5]) (logR m 3 false)) (hread : Ctr Try.prog 22 [pt 0 0, jobV j, iv 1] (devH d true) (.tuple #[iv s2, mSl 2 Y.length INF 0, iv 0]) [(2, rowOr 47 (enc recL Y) false)]) (hY : Y.length = X.length) : GT3 A j v d m M X ep s t := by
  · exact gF (denQ (jobL j ++ verV v ++ devC d ++ logC m ++ [.int .i64 (ep), .int .i64 (s), .int .i64 ((t : Int)), .int .i64 ((X.length : Int))] ++ logC m ++ [.int .i64 (s2), .int .i64 ((Y.length : Int))]) (by kernel_rfl) [.v (.slice (some ⟨5, 0, none⟩) d.n d.n), ow 7 m.L.length INF, om 8 M.length INF, om 9 X.length INF, ow 7 m.L.length INF, om 10 Y.length INF] rfl [enc secL d.S, enc recL m.L, enc recL M, enc recL X, enc recL m.L, enc recL Y] (PL.cons (enc_plain secL_plain _) (PL.cons (enc_plain recL_plain _) (PL.cons (enc_plain recL_plain _) (PL.cons (enc_plain recL_plain _) (PL.cons (enc_plain recL_plain _) (PL.cons (enc_plain recL_plain _) no_rows))))))) ⟨[(.len 43 (.chan (some 3)), sv 127), (.bin .lss 3 (sv 126) (sv 127), .bool false), (.len 43 (.chan (some 5)), sv 138), (.bin .eql 3 (sv 138) (sv 127), .bool true)], [], []⟩ [(20, [⟨[.pointer (some ⟨6, 0, none⟩), .int .i64 0, .agg (svs 5 97).toArray], 10, [(4, 0)], [⟨6, 2, false, .row 62 (.lst ([.pointer (some ⟨4, 0, none⟩)] ++ svs 115 9 ++ [.chan (some 1)])) false, .row 62 (.lst ([.pointer (some ⟨4, 0, none⟩)] ++ svs 128 9 ++ [.chan (some 4)])) false⟩, ⟨7, 3, false, .mrow 47 1 false, .mrow 47 4 false⟩], [], .tuple #[.int .i64 0, .int .i64 5]⟩]), (22, [⟨[.pointer (some ⟨4, 0, none⟩), .agg #[sv 0, sv 1, sv 2, sv 3, sv 4], .int .i64 1], 10, [], [⟨4, 0, true, .row 95 (.lst ([.chan (some 0)] ++ svs 102 13)) false, .row 95 (.lst ([.chan (some 0)] ++ svs 102 13)) false⟩, ⟨5, 1, true, .orow 114 0 false, .orow 114 0 false⟩], [(2, .mrow 47 5 false)], .tuple #[sv 137, .chan (some 5), .int .i64 0]⟩]), (12, [⟨[], 11, [], [], [], .bool true⟩])] ⟨asLen u43 rfl (by kernel_rfl), qF (((t : Int)) < ((X.length : Int))) (by omega), asLen u43 rfl (by kernel_rfl), eT ((Y.length : Int)) ((X.length : Int)) (by omega), trivial⟩ trivial trivial ⟨oe happ, oe hread, oe known_ctr, trivial⟩ 18 []
end
end Go.Proofs.Ytpennfojidpmeaa
namespace Go.Proofs.Ytpennfojidpmeaa
open Go.Sx
set_option maxRecDepth 20000
theorem eqR_refl (r : Rec) : eqR r r = true := by
  unfold eqR
  simp only [beq_self_eq_true, Bool.true_and, Bool.and_true]
  exact eqN_of fun _ _ _ => rfl
def Good (v : Ver) : Prop := Byte v.body ∧ ∀ i, 96 ≤ i → v.body i = 0
structure TInv (j : Jb) (d : Dv) (l : Lo) (M : List Rec) (k : Nat) (b : Int) : Prop where
  inv : Inv d l
  old : Old d l.j l.node l.flushed
  j : l.j = j
  n : l.node = 1
  e : l.epoch = 1
  x : l.start + l.L.length ≤ 1 + k
  dn : d.done ≤ b
  M : M = l.L
theorem TInv.mono {j : Jb} {d : Dv} {l : Lo} {M : List Rec} {k k' : Nat} {b b' : Int} (h : TInv j d l M k b) (hk : k ≤ k') (hb : b ≤ b') : TInv j d l M k' b' :=
  ⟨h.inv, h.old, h.j, h.n, h.e, by have := h.x; omega, by have := h.dn; omega, h.M⟩
theorem ap_T {j : Jb} {d : Dv} {l : Lo} {M : List Rec} {k : Nat} {b : Int} (h : TInv j d l M k b) {v : Ver} (ha : ApOK l 0 v) (hr : roomM l ≠ 0) (hv : Good v) : TInv j d (apM l 0 v) (M ++ [rN (l.start + l.L.length) v]) (k + 1) b := by
  have hx := h.x
  refine ⟨append_inv h.inv ha hr hv.1 hv.2, h.old, h.j, h.n, h.e, ?_, h.dn, ?_⟩
  · show l.start + ((l.L ++ [_]).length : Int) ≤ 1 + ((k + 1 : Nat) : Int)
    simp only [List.length_append, List.length_singleton]; omega
  · show M ++ [rN (l.start + l.L.length) v] = l.L ++ [⟨l.node, l.epoch, l.start + l.L.length, 0, v.psn, v.body⟩]
    rw [h.M, h.n, h.e]; rfl
theorem fl_T {j : Jb} {d : Dv} {l : Lo} {M : List Rec} {k : Nat} {b : Int} (h : TInv j d l M k b) (hb : b ≤ 1000000) : TInv j (flW l d) (flL l) M k (b + 128) ∧ kF (flL l) = l.L.length := by
  have hk := kF_le h.inv.hl
  have hln := h.inv.hl.ln
  have hlg := h.inv.hl.j.l
  have hdn := h.dn
  have hf := flush_inv (l.L.length - kF l) h.inv (by omega) (by omega)
  have ho := flush_old (l.L.length - kF l) h.inv h.old (by omega) (by omega)
  rw [flW_eq]
  refine ⟨⟨hf.1, ho, h.j, h.n, h.e, h.x, by have := hf.2; omega, h.M⟩, ?_⟩
  unfold kF flL
  simp only
  omega
theorem rst_T {j : Jb} {d : Dv} {l : Lo} {M : List Rec} {k : Nat} {b : Int} (h : TInv j d l M k b) (hb : b ≤ 900000) :
    TInv j (write1 (flW l d) (headAt l.j l.node) (headS ((flL l).flushed + 1) l.epoch)) (cutM (flL l) ((flL l).flushed + 1)) [] k (b + 129) ∧ (flL l).start ≤ (flL l).flushed + 1 ∧ roomM (cutM (flL l) ((flL l).flushed + 1)) ≠ 0 ∨ 2000000 < l.start := by
  obtain ⟨f1, f2⟩ := fl_T h (by omega)
  have hst := h.inv.hl.st
  have hln := h.inv.hl.ln
  have hx := h.x
  by_cases hbig : 2000000 < l.start
  · exact .inr hbig
  have e1 : (flL l).start = l.start := rfl
  have e2 : (flL l).flushed = l.start + l.L.length - 1 := rfl
  have e5 : (flL l).L = l.L := rfl
  have hlog := h.inv.hl.j.l
  have hv : (flL l).start ≤ (flL l).flushed + 1 ∧ (flL l).flushed + 1 ≤ (flL l).flushed + 1 := by rw [e1, e2]; omega
  have hdr : l.L.drop ((flL l).flushed + 1 - (flL l).start).toNat = [] := List.drop_eq_nil_of_le (by rw [e1, e2]; omega)
  have hci := cut_inv f1.inv hv (fun r hr => by rw [e5, hdr] at hr; cases hr) (by have := f1.dn; omega)
  have hco := cut_old f1.inv f1.old (headS ((flL l).flushed + 1) l.epoch)
  have hw := (write1_ok f1.inv.hd f1.inv.left (headAt l.j l.node) (headS_byte ((flL l).flushed + 1) l.epoch) (by have := f1.dn; omega)).2.2
  have hcl : (cutM (flL l) ((flL l).flushed + 1)).L = [] := hdr
  left
  refine ⟨⟨hci, hco, h.j, h.n, h.e, ?_, by have := f1.dn; omega, hcl.symm⟩, hv.1, ?_⟩
  · rw [hcl]
    show (flL l).flushed + 1 + (([] : List Rec).length : Int) ≤ 1 + (k : Int)
    rw [e2]; simp only [List.length_nil]; omega
  · unfold roomM
    rw [hcl]
    have e6 : (cutM (flL l) ((flL l).flushed + 1)).start = l.start + l.L.length - 1 + 1 := rfl
    have e7 : (cutM (flL l) ((flL l).flushed + 1)).j = l.j := rfl
    rw [e6, e7, if_neg (by simp only [List.length_nil]; omega)]
    simp only [List.length_nil]
    omega
section
variable {T1 T2 : Nat} {A : HL} {j : Jb} {F T : List Ver} {cF cT : Nat} {cut : Int} {v : Ver}
theorem first_all (h1 : F.length ≤ 60) (hF : ∀ x ∈ F, Good x) (hend : ∀ d l M, TInv j d l M 60 20000 → kF l = l.L.length → GT2 T2 A j T cT cut v d l M M.length 0) :
    ∀ (m i : Nat) (d : Dv) (l : Lo) (M : List Rec), i + m = F.length → TInv j d l M i (300 * i + 100) → GT T1 T2 A j F T cF cT cut v d l M i
  | 0, i, d, l, M, hm, h => by
    have hl := h.inv.hl
    have hdn := h.dn
    have hfl := flush_E hl h.inv.hd h.inv.left (by omega) h.inv.hs h.inv.hnd (fun _ => h.inv.he)
    obtain ⟨f1, f2⟩ := fl_T h (by omega)
    exact t_e (by omega) hfl (hend _ _ _ (f1.mono (by omega) (by omega)) f2)
  | m + 1, i, d, l, M, hm, h => by
    have hl := h.inv.hl
    have hdn := h.dn
    have hx := h.x
    have hst := hl.st
    have hln := hl.ln
    have hlog := hl.j.l
    have hgood : Good (gt F i) := hF _ (gt_mem (by omega))
    by_cases hr : roomM l = 0
    · have hfl := flush_E hl h.inv.hd h.inv.left (by omega) h.inv.hs h.inv.hnd (fun _ => h.inv.he)
      obtain ⟨f1, f2⟩ := fl_T h (by omega)
      rcases rst_T h (by omega) with ⟨r1, r2, r3⟩ | hbig
      · have hct := cut_E f1.inv.hl f1.inv.hd (v := (flL l).flushed + 1) ⟨r2, Int.le_refl _⟩ f1.inv.hs f1.inv.hnd f1.inv.left f1.inv.he
        have e2 : (flL l).flushed = l.start + l.L.length - 1 := rfl
        have hfb : 0 ≤ (flL l).flushed ∧ (flL l).flushed ≤ 1000000 := by rw [e2]; omega
        by_cases ha : ApOK (cutM (flL l) ((flL l).flushed + 1)) 0 (gt F i)
        · refine t_c hl (by omega) h1 hfb hr hfl (flushed_ctr) hct (append_E r1.inv.hl ha r3) ?_
          exact first_all h1 hF hend m (i + 1) _ _ _ (by omega) ((ap_T r1 ha r3 hgood).mono (Nat.le_refl _) (by omega))
        · refine t_d hl (by omega) h1 hfb hr hfl (flushed_ctr) hct (append_arg r1.inv.hl ha) ?_
          exact first_all h1 hF hend m (i + 1) _ _ _ (by omega) (r1.mono (by omega) (by omega))
      · omega
    · by_cases ha : ApOK l 0 (gt F i)
      · refine t_a hl (by omega) h1 (by rw [h.M]; omega) hr (append_E hl ha hr) ?_
        exact first_all h1 hF hend m (i + 1) _ _ _ (by omega) ((ap_T h ha hr hgood).mono (Nat.le_refl _) (by omega))
      · refine t_b hl (by omega) h1 hr (append_arg hl ha) ?_
        exact first_all h1 hF hend m (i + 1) _ _ _ (by omega) (h.mono (by omega) (by omega))
theorem then_all (h2 : T.length ≤ 60) (hT : ∀ x ∈ T, Good x) {sure : Nat} (hend : ∀ d l M i, T.length ≤ i → TInv j d l M 120 20000 → kF l = sure → GT2 T2 A j T cT cut v d l M sure i) :
    ∀ (m i : Nat) (d : Dv) (l : Lo) (M : List Rec), i + m = T.length → TInv j d l M (60 + i) 20000 → kF l = sure → GT2 T2 A j T cT cut v d l M sure i
  | 0, i, d, l, M, hm, h, hk => hend d l M i (by omega) (h.mono (by omega) (Int.le_refl _)) hk
  | m + 1, i, d, l, M, hm, h, hk => by
    have hl := h.inv.hl
    have hln := hl.ln
    have hlog := hl.j.l
    have hgood : Good (gt T i) := hT _ (gt_mem (by omega))
    by_cases ha : ApOK l 0 (gt T i)
    · by_cases hr : roomM l = 0
      · refine u_f (by omega) h2 (append_full hl ha hr) ?_
        exact then_all h2 hT hend m (i + 1) _ _ _ (by omega) (h.mono (by omega) (Int.le_refl _)) hk
      · refine u_a (by omega) h2 (by rw [h.M]; omega) (append_E hl ha hr) ?_
        exact then_all h2 hT hend m (i + 1) _ _ _ (by omega) (ap_T h ha hr hgood) hk
    · refine u_b (by omega) h2 (append_arg hl ha) ?_
      exact then_all h2 hT hend m (i + 1) _ _ _ (by omega) (h.mono (by omega) (Int.le_refl _)) hk
end
theorem flushD_keep (l : Lo) : ∀ (rs : List Rec) (d : Dv), (flushD l rs d).nd = d.nd ∧ (flushD l rs d).e = d.e ∧ (flushD l rs d).cut = d.cut
  | [], _ => ⟨rfl, rfl, rfl⟩
  | _ :: rs, _ => flushD_keep l rs _
theorem flushD_ok {l : Lo} : ∀ (rs : List Rec) (d : Dv), (∀ r ∈ rs, Byte r.body) → DOK d → LeftOK d → d.done + 2 * rs.length ≤ 999999998 → DOK (flushD l rs d) ∧ LeftOK (flushD l rs d) ∧ (flushD l rs d).done ≤ d.done + 2 * rs.length
  | [], d, _, hd, hl, _ => ⟨hd, hl, by show d.done ≤ _; simp⟩
  | r :: rs, d, hb, hd, hl, hx => by
    simp only [List.length_cons] at hx ⊢
    have hby := hb r List.mem_cons_self
    obtain ⟨w1, w2, w3⟩ := write2_ok hd hl (recAt l.j l.node r.lsn) (half_byte hby (h := 0) (by decide)) (half_byte hby (h := 1) (by decide)) (by omega)
    obtain ⟨k1, k2, k3⟩ := flushD_ok rs (write2 d (recAt l.j l.node r.lsn) (half r 0) (half r 1)) (fun q hq => hb q (List.mem_cons_of_mem _ hq)) w1 w2 (by omega)
    exact ⟨k1, k2, by show (flushD l rs (write2 d (recAt l.j l.node r.lsn) (half r 0) (half r 1))).done ≤ _; omega⟩
end Go.Proofs.Ytpennfojidpmeaa
namespace Go.Proofs.Ytpennfojidpmeaa
open Go.Sx
set_option maxRecDepth 20000
theorem kF_flL {l : Lo} (hl : LOK l) : kF (flL l) = l.L.length := by
  have := hl.fl
  unfold kF flL
  simp only
  omega
theorem readI {d : Dv} {m : Lo} (h : Inv d m) (hk : kF m = m.L.length) : Ctr Try.prog 22 [pt 0 0, jobV m.j, iv m.node] (devH d true) (.tuple #[iv m.start, mSl 2 m.L.length INF 0, iv 0]) [(2, rowOr 47 (enc recL m.L) false)] := by
  obtain ⟨e', q1, q2, q3, _, q5⟩ := h.head
  have hr := read_ok h.hd h.hl.j h.hs h.hl.nd h.hl.st ⟨q2, q3⟩ q1
  rw [read_inv h q5, hk, List.take_length] at hr
  exact hr
theorem openI {d : Dv} {m : Lo} (h : Inv d m) (hk : kF m = m.L.length) (hf : m.flushed = m.start + m.L.length - 1) : Ctr Try.prog 15 [pt 0 0, jobV m.j, iv m.node, iv m.epoch] (devH d false) (.tuple #[pt 2 0, iv 0]) (devH d false ++ logA m 3 false) := by
  obtain ⟨e', q1, q2, q3, _, q5⟩ := h.head
  have ho := open_ok h.hd h.hl.j h.hs h.hl.nd h.hl.ep h.hl.st ⟨q2, q3⟩ q1
  rw [read_inv h q5, hk, List.take_length, ← hf] at ho
  exact ho
section
variable {T2 : Nat} {A : HL} {j : Jb} {T : List Ver} {cT : Nat} {cut : Int} {v : Ver}
theorem third_all {d : Dv} {m : Lo} {M X : List Rec} {ep s : Int} (hXM : ∃ k, X = M.take k) (hX2 : X.length ≤ 1000) (hfin : ∀ t, X.length ≤ t → GT3 A j v d m M X ep s t) : ∀ (k t : Nat), t + k = X.length → GT3 A j v d m M X ep s t
  | 0, t, h => hfin t (by omega)
  | k + 1, t, h => by
    obtain ⟨q, hq⟩ := hXM
    have hlq := congrArg List.length hq
    rw [List.length_take] at hlq
    have he : gt X t = gt M t := by
      rw [hq]; unfold gt; rw [List.getElem?_take, if_pos (by omega)]
    exact w_s (by omega) (by omega) hX2 (by rw [he]; exact eqR_refl _) (third_all ⟨q, hq⟩ hX2 hfin k (t + 1) (by omega))
theorem fin_t {d : Dv} {m : Lo} {M X : List Rec} {ep s : Int} (h : Inv d m) (hj : m.j = j) (hn : m.node = 1) (he : m.epoch = ep) (hL : m.L = X) (hk : kF m = m.L.length) (hs : s = m.start) (hdn : d.done ≤ 100000) (hv : Good v) : ∀ t, X.length ≤ t → GT3 A j v d m M X ep s t := fun t ht => by
  have hl := h.hl
  have hln := hl.ln
  have hlog := hl.j.l
  have hst := hl.st
  have hr0 := readI h hk
  rw [hj, hn, hL, ← hs] at hr0
  by_cases ha : ApOK m 0 v
  · by_cases hr : roomM m = 0
    · exact w_f ht (append_full hl ha hr) hr0 rfl
    · have hap : Inv d (apM m 0 v) := append_inv h ha hr hv.1 hv.2
      have hk2 := kF_le hap.hl
      have hln2 := hap.hl.ln
      have hlog2 := hap.hl.j.l
      have hfl := flush_E hap.hl hap.hd hap.left (by omega) hap.hs hap.hnd (fun _ => hap.he)
      have hf := (flush_inv ((apM m 0 v).L.length - kF (apM m 0 v)) hap (by omega) (by omega)).1
      rw [← flW_eq] at hf
      have hr2 := readI hf (kF_flL hap.hl)
      have hr2 : Ctr Try.prog 22 [pt 0 0, jobV m.j, iv m.node] (devH (flW (apM m 0 v) d) true) (.tuple #[iv m.start, mSl 2 (apM m 0 v).L.length INF 0, iv 0]) [(2, rowOr 47 (enc recL (apM m 0 v).L) false)] := hr2
      rw [hj, hn] at hr2
      have hg : gt (apM m 0 v).L X.length = ⟨m.node, m.epoch, m.start + m.L.length, 0, v.psn, v.body⟩ := by
        show gt (m.L ++ [_]) X.length = _
        rw [← hL, gt_app_eq]
      refine w_a ht (by rw [← hL]; omega) hs (by omega) (by rw [hL]) (append_E hl ha hr) hfl hr2 ?_ ?_ ?_
      · show (m.L ++ [_]).length = _
        rw [hL]; simp
      · rw [hg]; exact eqN_of fun _ _ _ => rfl
      · rw [hg]; exact he
  · exact w_b ht (append_arg hl ha) hr0 rfl
theorem end_all (hc : 0 ≤ cut ∧ cut ≤ 1000) (hv : Good v) {sure : Nat} (d : Dv) (l : Lo) (M : List Rec) (i : Nat) (hi : T.length ≤ i) (h : TInv j d l M 120 20000) (hk : kF l = sure) : GT2 T2 A j T cT cut v d l M sure i := by
  have hl := h.inv.hl
  have hd := h.inv.hd
  have hln := hl.ln
  have hlog := hl.j.l
  have hst := hl.st
  have hdn := h.dn
  have ⟨k1, k2⟩ := kF_le hl
  have hdd := hd.dn
  have hnd : (1 : Int) < d.nd := by have := h.inv.hnd; rw [h.n] at this; exact this
  have he1 : d.e 1 = 1 := by have := h.inv.he; rw [h.e, h.n] at this; exact this.symm
  have hD1 : DOK (tC d cut) := ⟨hd.len, hd.nb, hd.nd, hd.ep, hd.dn, hd.by'⟩
  have hL1 : LeftOK (tC d cut) := fun _ => by show 0 ≤ cut ∧ cut ≤ 1000000; omega
  have hdc : Ctr Try.prog 25 [pt 0 0, iv cut] (devH d false) (iv 0) (devH (tC d cut) false) := dcut_ctr hd hc.1 h.inv.cut
  have hfl := flush_E hl hD1 hL1 (show d.done ≤ 800000000 by omega) h.inv.hs h.inv.hnd (fun _ => h.inv.he)
  obtain ⟨f1, f2, f3⟩ := flushD_ok (l := l) (l.L.drop (kF l)) (tC d cut) (fun r hr => hl.by' r (List.mem_of_mem_drop hr)) hD1 hL1 (by rw [List.length_drop]; show d.done + _ ≤ _; omega)
  obtain ⟨g1, g2, g3⟩ := flushD_keep l (l.L.drop (kF l)) (tC d cut)
  rw [← flW_eq] at f1 f2 f3 g1 g2 g3
  have hf3 : (flW l (tC d cut)).done ≤ 30000 := by
    rw [List.length_drop] at f3
    have : (tC d cut).done = d.done := rfl
    omega
  have hwh := dwhole_ctr f1
  have hD3 : DOK (tW (flW l (tC d cut))) := ⟨f1.len, f1.nb, f1.nd, f1.ep, f1.dn, f1.by'⟩
  have he3 : (tW (flW l (tC d cut))).e 1 = 1 := by show (flW l (tC d cut)).e 1 = 1; rw [g2]; exact he1
  have hnd3 : (tW (flW l (tC d cut))).nd = d.nd := g1
  have hup : Ctr Try.prog 27 [pt 0 0, iv 1] (devH (tW (flW l (tC d cut))) false) (.tuple #[iv ((tW (flW l (tC d cut))).e 1 + 1), iv 0]) (devH (tU (tW (flW l (tC d cut)))) false) :=
    dup_ctr hD3 (n := 1) ⟨by decide, by rw [hnd3]; exact hnd⟩ rfl (by show (tW (flW l (tC d cut))).e 1 < _; rw [he3]; decide)
  have hD4 : DOK (tU (tW (flW l (tC d cut)))) := by
    refine ⟨f1.len, f1.nb, f1.nd, fun i => ?_, ?_, f1.by'⟩
    · show 0 ≤ upd _ 1 _ i ∧ upd _ 1 _ i ≤ 2147483647
      unfold upd
      split
      · rw [he3]; decide
      · exact f1.ep i
    · have := f1.dn
      show 0 ≤ (flW l (tC d cut)).done + 1 ∧ (flW l (tC d cut)).done + 1 ≤ 1000000000
      omega
  obtain ⟨d2, i2, o2, n2, e2, nd2, s2⟩ := tear (l.L.length - kF l) (D := tC d cut) (c := cut.toNat) h.inv h.old (by omega) (by omega) rfl rfl (show cut = (cut.toNat : Int) by omega)
  generalize hmn : min (l.L.length - kF l) (cut.toNat / 2) = mn at i2 o2 s2
  have hkF2 : kF { l with flushed := l.flushed + (mn : Int) } = kF l + mn := by unfold kF at k2 ⊢; simp only at k2 ⊢; omega
  have hd4 : (tU (tW (flW l (tC d cut)))).done ≤ 30001 := by show (flW l (tC d cut)).done + 1 ≤ _; omega
  have he4 : (tU (tW (flW l (tC d cut)))).e 1 = (tW (flW l (tC d cut))).e 1 + 1 := rfl
  have ti := torn_inv (D := tU (tW (flW l (tC d cut)))) i2 o2 hD4 n2.symm (hnd3.trans nd2.symm) rfl (by
    show l.epoch ≤ (tU (tW (flW l (tC d cut)))).e l.node.toNat ∧ (tU (tW (flW l (tC d cut)))).e l.node.toNat ≤ 2147483647
    rw [h.n, h.e]
    show 1 ≤ (tU (tW (flW l (tC d cut)))).e 1 ∧ (tU (tW (flW l (tC d cut)))).e 1 ≤ 2147483647
    rw [he4, he3]; decide) (by
    rw [hkF2]
    show (flW l (tC d cut)).S = _ ∨ _ ∧ (flW l (tC d cut)).S = _
    rw [flW_eq]
    exact s2)
  rw [hkF2] at ti
  have hX : (l.L.take (kF l + mn)).length = kF l + mn := by rw [List.length_take]; omega
  generalize hD : tU (tW (flW l (tC d cut))) = D4 at *
  generalize hm : (⟨l.j, l.node, D4.e l.node.toNat, l.start, l.start + (l.L.take (kF l + mn)).length - 1, l.L.take (kF l + mn)⟩ : Lo) = m at ti
  have mj : m.j = j := by rw [← hm]; exact h.j
  have mn' : m.node = 1 := by rw [← hm]; exact h.n
  have me : m.epoch = (tW (flW l (tC d cut))).e 1 + 1 := by rw [← hm]; show D4.e l.node.toNat = _; rw [h.n]; exact he4
  have mL : m.L = l.L.take (kF l + mn) := by rw [← hm]
  have ms : m.start = l.start := by rw [← hm]
  have mf : m.flushed = m.start + m.L.length - 1 := by rw [← hm]
  have mk : kF m = m.L.length := by unfold kF; rw [mf]; omega
  have hop := openI ti mk mf
  rw [mj, mn', me] at hop
  have hrd := readI ti mk
  rw [mj, mn', mL] at hrd
  subst hD
  refine u_e (s := m.start) hi (by rw [h.M]; omega) (by omega) hc hdc hfl hwh hup hop hrd start_ctr (by rw [hX]; omega) (by rw [hX, h.M]; omega) ms ?_
  exact third_all ⟨kF l + mn, by rw [h.M]⟩ (by rw [hX]; omega) (fin_t ti mj mn' me mL mk rfl (by omega) hv) _ 0 (Nat.zero_add _)
end
theorem torn_ctr {T1 T2 : Nat} {j : Jb} {F T : List Ver} {cF cT : Nat} {cut : Int} {v : Ver} (hF : ∀ x ∈ F, Good x) (hT : ∀ x ∈ T, Good x) (hv : Good v) : CT T1 T2 j F T cF cT cut v := by
  by_cases hj : MayJ j
  · by_cases hg : F.length ≤ 60 ∧ T.length ≤ 60 ∧ 0 ≤ cut ∧ cut ≤ 1000
    · obtain ⟨g1, g2, g3, g4⟩ := hg
      have hjn := hj.n
      refine t_start g1 g2 ⟨g3, g4⟩ (jmayR_ctr hj) (new_ctr hj) (open_new hj ⟨by decide, by omega⟩) ?_
      refine first_all g1 hF (fun d l M hI hk => ?_) F.length 0 _ _ _ (Nat.zero_add _) ⟨new_inv hj ⟨by decide, by omega⟩, new_old j 1, rfl, rfl, rfl, by show (1 : Int) + (([] : List Rec).length : Int) ≤ _; simp, ?_, rfl⟩
      · exact then_all g2 hT (fun d l M i hi h hk => end_all ⟨g3, g4⟩ hv d l M i hi h hk) T.length 0 d l M (Nat.zero_add _) (hI.mono (by omega) (Int.le_refl _)) (by rw [hk, hI.M])
      · show ((j.nodes.toNat : Nat) : Int) ≤ _
        omega
    · exact t_guard (jmayR_ctr hj) hg
  · exact t_nojob (jmayR_f hj)
end Go.Proofs.Ytpennfojidpmeaa
namespace Go.Proofs.Ytpennfojidpmeaa
open Go.Sx Go.Deep Go.WideShapes
set_option maxRecDepth 20000
theorem fit_cap (e : EI) {cap : Nat} (h : e.cap = cap) : capOf e (if cap < HALF then cap else INF) = cap := by
  unfold capOf
  by_cases hc : cap < HALF
  · rw [if_pos hc, if_pos hc]
  · rw [if_neg hc, if_neg (by decide +kernel), Nat.sub_self, Nat.sub_zero]; exact h
theorem add_none {a : Addr} (h : a.spot = none) (n : Nat) : a.add n = ⟨a.block, a.off + n, none⟩ := by
  unfold Addr.add
  by_cases h0 : n = 0
  · rw [if_pos h0]; subst h0; cases a; simp only at h; subst h; rfl
  · rw [if_neg h0]
theorem cell_at {w : World} {a : Addr} {v : Value} (h : w.cell? a = some v) : a.spot = none ∧ ∃ cells T fz, w.heap[a.block]? = some (.cells cells T fz) ∧ cells[a.off]? = some v := by
  unfold World.cell? at h
  split at h
  · rename_i c T fz hc
    split at h
    · cases h
    · rename_i hs
      refine ⟨?_, c, T, fz, hc, h⟩
      cases ha : a.spot with
      | none => rfl
      | some x => rw [ha] at hs; exact absurd rfl hs
  · cases h
theorem bodL_eq (b : Nat → Int) : bodL b = (List.range 96).map fun i => .int .u8 (b i) := by rfl
theorem bodL_get (b : Nat → Int) {i : Nat} (h : i < 96) : (bodL b)[i]? = some (.int .u8 (b i)) := by
  rw [bodL_eq, List.getElem?_map, List.getElem?_range h]; rfl
theorem wf_u8 {n : Int} (h : (Lit.int .u8 n).wf = true) : 0 ≤ n ∧ n < 256 := by
  simp [Lit.wf, IntKind.min, IntKind.max, IntKind.signed, IntKind.bits] at h
  omega
section
variable {H : Type} {en : TypeId × Value → H} {W : World} {base : Nat} {sp : Nat → Bool} {hd : Bool} {fuel : Nat} {cs : List Value} {x : DataW H × List MemPlace}
theorem ver_of (h : DataW.trod en Try.prog W base sp hd fuel 41 cs = some x) : ∃ v : Ver, Good v ∧ cs = verV v := by
  obtain ⟨ys, n, _, _, hlen, hyl, hf⟩ := DataW.trod_struct Try.underlying41 h
  have hlen : cs.length = 97 := hlen.trans (by kernel_rfl)
  have hyl : ys.length = 2 := hyl
  have h0 := hf 0 _ rfl
  have h1 := hf 1 _ rfl
  obtain ⟨k0, e0, _, w0⟩ := DataW.trod_int Try.underlying2 (h0.trans (List.getElem?_eq_getElem (by omega)))
  obtain ⟨zs, n2, _, _, _, hzl, hz⟩ := DataW.trod_array Try.underlying39 (h1.trans (List.getElem?_eq_getElem (by omega)))
  have e0 : (cs.drop 0).take 1 = [.int .i64 k0] := e0
  have hb : ∀ i, i < 96 → ∃ b, cs[1 + i]? = some (.int .u8 b) ∧ 0 ≤ b ∧ b < 256 := fun i hi => by
    obtain ⟨b, eb, _, wb⟩ := DataW.trod_int Try.underlying5 ((hz i hi).trans (List.getElem?_eq_getElem (by omega)))
    have e1 : (((cs.drop 1).take 96).drop (i * 1)).take 1 = [.int .u8 b] := eb
    have e2 := congrArg (fun l : List Value => l[0]?) e1
    simp only [List.getElem?_take, List.getElem?_drop, Nat.mul_one, Nat.add_zero, List.getElem?_cons_zero] at e2
    rw [if_pos (by omega), if_pos hi] at e2
    exact ⟨b, e2, wf_u8 wb⟩
  let bd : Nat → Int := fun i => if i < 96 then (match cs[1 + i]? with
    | some (.int _ b) => b
    | _ => 0) else 0
  have hbd : ∀ i, i < 96 → cs[1 + i]? = some (.int .u8 (bd i)) ∧ 0 ≤ bd i ∧ bd i < 256 := fun i hi => by
    obtain ⟨b, h1, h2⟩ := hb i hi
    have : bd i = b := by show (if i < 96 then _ else _) = b; rw [if_pos hi, h1]
    rw [this]
    exact ⟨h1, h2⟩
  refine ⟨⟨k0, bd⟩, ⟨fun i => ?_, fun i hi => if_neg (by omega)⟩, ?_⟩
  · by_cases hi : i < 96
    · exact (hbd i hi).2
    · have : bd i = 0 := if_neg hi
      show 0 ≤ bd i ∧ bd i < 256
      rw [this]; decide
  · apply List.ext_getElem?
    intro k
    cases k with
    | zero =>
      have e2 := congrArg (fun l : List Value => l[0]?) e0
      simp only [List.getElem?_take, List.getElem?_drop, Nat.add_zero, List.getElem?_cons_zero] at e2
      rw [if_pos (by omega)] at e2
      exact e2
    | succ k =>
      show _ = (bodL bd)[k]?
      by_cases hk : k < 96
      · rw [bodL_get bd hk, Nat.add_comm]
        exact (hbd k hk).1
      · rw [List.getElem?_eq_none (by omega), List.getElem?_eq_none (by show 96 ≤ k; omega)]
theorem job_of (h : DataW.trod en Try.prog W base sp hd fuel 24 cs = some x) : ∃ j : Jb, cs = jobL j := by
  obtain ⟨ys, n, _, _, hlen, hyl, hf⟩ := DataW.trod_struct Try.underlying24 h
  have hlen : cs.length = 5 := hlen.trans (by kernel_rfl)
  have hyl : ys.length = 5 := hyl
  match cs, hlen with
  | [c0, c1, c2, c3, c4], _ =>
    obtain ⟨k0, e0, _⟩ := DataW.trod_int Try.underlying3 ((hf 0 _ rfl).trans (List.getElem?_eq_getElem (by omega)))
    obtain ⟨k1, e1, _⟩ := DataW.trod_int Try.underlying3 ((hf 1 _ rfl).trans (List.getElem?_eq_getElem (by omega)))
    obtain ⟨k2, e2, _⟩ := DataW.trod_int Try.underlying3 ((hf 2 _ rfl).trans (List.getElem?_eq_getElem (by omega)))
    obtain ⟨k3, e3, _⟩ := DataW.trod_int Try.underlying3 ((hf 3 _ rfl).trans (List.getElem?_eq_getElem (by omega)))
    obtain ⟨k4, e4, _⟩ := DataW.trod_int Try.underlying3 ((hf 4 _ rfl).trans (List.getElem?_eq_getElem (by omega)))
    have f0 : [c0] = [.int .i64 k0] := e0
    have f1 : [c1] = [.int .i64 k1] := e1
    have f2 : [c2] = [.int .i64 k2] := e2
    have f3 : [c3] = [.int .i64 k3] := e3
    have f4 : [c4] = [.int .i64 k4] := e4
    simp only [List.cons.injEq, and_true] at f0 f1 f2 f3 f4
    subst f0 f1 f2 f3 f4
    exact ⟨⟨k0, k1, k2, k3, k4⟩, rfl⟩
end
theorem vers_of {f : Nat → Option Value} : ∀ n : Nat, (∀ i, i < n → ∃ x : Ver, Good x ∧ ∀ j v, (verV x)[j]? = some v → f (i * 97 + j) = some v) → ∃ l : List Ver, l.length = n ∧ (∀ x ∈ l, Good x) ∧ ∀ k v, (enc verV l)[k]? = some v → f k = some v
  | 0, _ => ⟨[], rfl, (fun _ h => by cases h), (fun k v h => by simp [enc] at h)⟩
  | n + 1, h => by
    obtain ⟨l, hl, hgd, hg⟩ := vers_of n fun i hi => h i (by omega)
    obtain ⟨x, hxg, hx⟩ := h n (by omega)
    refine ⟨l ++ [x], by simp [hl], fun y hy => ?_, fun k v hk => ?_⟩
    · rcases List.mem_append.1 hy with hy | hy
      · exact hgd y hy
      · rw [List.mem_singleton.1 hy]; exact hxg
    · have hlen := enc_len (f := verV) verV_len l
      have e : enc verV [x] = verV x := by simp [enc]
      rw [enc_app, e] at hk
      by_cases hkn : k < (enc verV l).length
      · rw [List.getElem?_append_left hkn] at hk; exact hg k v hk
      · rw [List.getElem?_append_right (by omega)] at hk
        have := hx _ v hk
        rw [show n * 97 + (k - (enc verV l).length) = k from by omega] at this
        exact this
def Rp (w : World) (k : Nat) (v : Value) (l : List Ver) (T : TypeId) (cp : Nat) (e : Option EI) : Prop :=
  (l = [] ∧ e = none ∧ ∃ b c, v = .slice b 0 c) ∨
  (1 ≤ l.length ∧ ∃ x : EI, e = some x ∧ (∃ cells fz, w.heap[x.blk]? = some (Obj.cells cells T fz) ∧ ∀ i u, (enc verV l)[i]? = some u → cells[x.off + i]? = some u) ∧ ∀ E : Env, E k = some x → VR0 E (.slice (some ⟨k, 0, none⟩) l.length cp) v)
theorem Rp.val {w : World} {k : Nat} {v : Value} {l : List Ver} {T : TypeId} {cp : Nat} {e : Option EI} (h : Rp w k v l T cp e) {E : Env} (hE : E k = e) : VR0 E (mSl k l.length cp 2) v := by
  rcases h with ⟨rfl, rfl, b, c, rfl⟩ | ⟨h1, x, rfl, _, h2⟩
  · exact @VR.anS den0 E b c
  · rw [mSl_pos h1]; exact h2 E hE
theorem rp_of {H : Type} {en : TypeId × Value → H} {W : World} {v : Value} {d : DataW H} {p : List MemPlace} {base : Nat} (k : Nat) (hv : Value.okWide Try.prog W .any base 49 v) (hd : DataW.Trod en Try.prog W 0 (fun _ => true) true 49 v d p) :
    ∃ (l : List Ver) (T : TypeId) (cp : Nat) (e : Option EI), (∀ x ∈ l, Good x) ∧ Rp W k v l T cp e := by
  obtain ⟨a0, len0, cap0, rfl⟩ := okWide_slice Try.underlying49 hv
  obtain ⟨fuel, hf⟩ := hd
  have htr : DataW.trod en Try.prog W 0 (fun _ => true) true fuel 49 [.slice a0 len0 cap0] = some (d, p) := hf
  rcases open_slice Try.underlying49 htr with ⟨h1, _⟩ | ⟨a, len, cap, m, n, D, Pl, h1, _, hl, _, hm, _, hi⟩
  · cases h1
    exact ⟨[], 0, 0, none, nofun, .inl ⟨rfl, rfl, _, _, rfl⟩⟩
  · cases h1
    rw [if_pos rfl] at hm
    subst hm
    by_cases h0 : len0 = 0
    · subst h0
      exact ⟨[], 0, 0, none, nofun, .inl ⟨rfl, rfl, _, _, rfl⟩⟩
    have hC : Try.prog.cellsOf 41 = 97 := by kernel_rfl
    have hel : ∀ i, i < m → ∃ x : Ver, Good x ∧ ∀ j u, (verV x)[j]? = some u → W.cell? (a.add (i * 97 + j)) = some u := fun i him => by
      obtain ⟨cs', hc, ht'⟩ := hi i him
      rw [hC] at hc
      obtain ⟨v, hg, rfl⟩ := ver_of ht'
      obtain ⟨_, hcl, hat⟩ := World.cells?_some hc
      refine ⟨v, hg, fun j u hj => ?_⟩
      have hjl : j < 97 := by
        have := (List.getElem?_eq_some_iff.1 hj).1
        rw [verV_len] at this
        exact this
      rw [← Go.Deep.add_add, hat j hjl]
      exact hj
    obtain ⟨l, hn, hgd, hg⟩ := vers_of (f := fun k => W.cell? (a.add k)) len0 fun i hi => hel i (by omega)
    subst hn
    have hg0 : W.cell? (a.add 0) = some (.int .i64 (gt l 0).psn) := hg 0 _ (by
      cases l with
      | nil => exact absurd rfl h0
      | cons y t => rfl)
    have a0' : a.add 0 = a := by cases a; rfl
    rw [a0'] at hg0
    obtain ⟨hs, cells, T, fz, hb, _⟩ := cell_at hg0
    refine ⟨l, T, if m < HALF then m else INF, some ⟨a.block, a.off, m⟩, hgd, .inr ⟨by omega, _, rfl, ⟨cells, fz, hb, fun i u hu => ?_⟩, fun E hE => ?_⟩⟩
    · have h1 := hg i u hu
      rw [add_none hs] at h1
      obtain ⟨_, cells2, T2, fz2, hb2, h2⟩ := cell_at h1
      simp only at hb2 h2
      rw [hb] at hb2
      cases hb2
      exact h2
    · have hcap := fit_cap ⟨a.block, a.off, m⟩ (cap := m) rfl
      have := @VR.sl den0 E k 0 l.length (if m < HALF then m else INF) ⟨a.block, a.off, m⟩ a hE (by rw [hcap]; exact hl) (.inl (by cases a; simp only at hs; subst hs; rfl))
      rw [hcap] at this
      exact this
theorem call_two {w : World} {v1 v2 x0 x3 x4 : Value} {l1 l2 : List Ver} {T1 T2 : TypeId} {c1 c2 : Nat} {e1 e2 : Option EI} {g : FuncId} (h1 : Rp w 0 v1 l1 T1 c1 e1) (h2 : Rp w 1 v2 l2 T2 c2 e2) (p0 : cleanB x0 = true) (p3 : cleanB x3 = true) (p4 : cleanB x4 = true)
    (hc : Ctr Try.prog g [x0, mSl 0 l1.length c1 2, mSl 1 l2.length c2 2, x3, x4] [(0, rowOr T1 (enc verV l1) true), (1, rowOr T2 (enc verV l2) true)] (.bool true) []) :
    Calls Try.prog g #[x0, v1, v2, x3, x4] w fun e w' => e = .returned (.bool true) ∧ Go.RowKit.Below w.heap.size w w' := by
  let E : Env := fun i => if i = 0 then e1 else if i = 1 then e2 else none
  let A : HL := [(0, rowOr T1 (enc verV l1) true), (1, rowOr T2 (enc verV l2) true)]
  have hget : ∀ {i : Nat} {o : AObj}, (ofL A).get i = some o → (i = 0 ∧ o = rowOr T1 (enc verV l1) true) ∨ (i = 1 ∧ o = rowOr T2 (enc verV l2) true) := fun {i o} h => by
    rw [get_ofL] at h
    have := lkL_mem h
    simp only [A, List.mem_cons, List.not_mem_nil, or_false, Prod.mk.injEq] at this
    exact this
  have hro : ∀ {i : Nat} {o : AObj}, (ofL A).get i = some o → writable o = false := fun h => by
    rcases hget h with ⟨_, rfl⟩ | ⟨_, rfl⟩ <;> exact (rowOr_live _ _ _).2
  have pl : ∀ {v : Value} {l : List Ver} {k : Nat}, (enc verV l)[k]? = some v → plainS v = true := fun {v l k} hk => List.all_eq_true.1 (enc_plain verV_plain l) v (List.mem_of_getElem? hk)
  have hne : ∀ {l : List Ver}, 1 ≤ l.length → enc verV l ≠ [] := fun {l} h hh => by
    have := enc_len (f := verV) verV_len l
    rw [hh] at this
    simp at this
    omega
  have hrow : HR0 Try.prog w (fun _ => False) E (ofL A) w := by
    refine @HR.mk den0 _ _ _ _ _ _ ⟨rfl, rfl, rfl, Nat.le_refl _, fun _ _ _ => rfl⟩ (fun i e h => ?_) (fun i o h => ?_) (fun i j o p x y hne hi hj hlo hlp hw hx hy => ?_) (fun i o e hi hw _ => ?_)
    · simp only [E] at h
      split at h
      · rename_i hi; subst hi; rw [get_ofL]; exact fun h => by cases h
      · split at h
        · rename_i hi; subst hi; rw [get_ofL]; exact fun h => by cases h
        · cases h
    · rcases hget h with ⟨rfl, rfl⟩ | ⟨rfl, rfl⟩
      · rcases h1 with ⟨rfl, rfl, _⟩ | ⟨g1, x, rfl, ⟨cells, fz, hb, hg⟩, _⟩
        · exact .inl ⟨rfl, rfl⟩
        · rw [rowOr_pos (hne g1)]
          refine ⟨x, cells, rfl, ⟨fz, hb⟩, nofun, fun k v hk => ?_⟩
          rw [get_lst] at hk
          have hpv := pl hk
          exact ⟨v, hg k v hk, @VR.cleanS den0 _ _ (by cases v <;> first | rfl | (simp [plainS] at hpv)), by cases v <;> first | rfl | (simp [plainS] at hpv)⟩
      · rcases h2 with ⟨rfl, rfl, _⟩ | ⟨g1, x, rfl, ⟨cells, fz, hb, hg⟩, _⟩
        · exact .inl ⟨rfl, rfl⟩
        · rw [rowOr_pos (hne g1)]
          refine ⟨x, cells, rfl, ⟨fz, hb⟩, nofun, fun k v hk => ?_⟩
          rw [get_lst] at hk
          have hpv := pl hk
          exact ⟨v, hg k v hk, @VR.cleanS den0 _ _ (by cases v <;> first | rfl | (simp [plainS] at hpv)), by cases v <;> first | rfl | (simp [plainS] at hpv)⟩
    · exfalso
      have q1 := hro hi
      have q2 := hro hj
      rcases hw with hw | hw
      · rw [q1] at hw; cases hw
      · rw [q2] at hw; cases hw
    · rw [hro hi] at hw; cases hw
  have hargs : LR0 E [x0, mSl 0 l1.length c1 2, mSl 1 l2.length c2 2, x3, x4] [x0, v1, v2, x3, x4] :=
    @LR.cons den0 E _ _ _ _ (VR0.clean p0) (@LR.cons den0 E _ _ _ _ (h1.val rfl) (@LR.cons den0 E _ _ _ _ (h2.val rfl) (@LR.cons den0 E _ _ _ _ (VR0.clean p3) (@LR.cons den0 E _ _ _ _ (VR0.clean p4) (@LR.nil den0 E)))))
  have := hc.2 w (fun _ => False) E [x0, v1, v2, x3, x4] hrow hargs Fence.wide 0 ⟨fun _ => trivial, rfl⟩
  exact (callsIn_wide.1 this).mono fun e w' ⟨v', E', h1, _, h3, h4⟩ => by
    cases h4
    exact ⟨h1, (@HR.keeps den0 _ _ _ _ _ _ h3).below⟩
end Go.Proofs.Ytpennfojidpmeaa

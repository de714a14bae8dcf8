import Derived.Test.YtpennfojidpmeaaQj
namespace Go.Proofs.Ytpennfojidpmeaa
open Go.Sx
set_option maxRecDepth 20000
def intL (x : Int) : List Value := [.int .i64 x]
theorem intL_len (a : Int) : (intL a).length = 1 := rfl
theorem intL_plain (a : Int) : (intL a).all plainS = true := rfl
structure Rd where
  n : Nat
  S : List Sec
  E : List Int
  left : Int
  lost : Bool
  done : Int
def rdC (q : Rd) : List Value := [.int .i64 q.left, .bool q.lost, .int .i64 q.done]
def rdH (q : Rd) (ro : Bool) : HL := [(0, .row 122 (.lst (.slice (some ⟨1, 0, none⟩) q.n q.n :: .slice (some ⟨2, 0, none⟩) q.E.length q.E.length :: rdC q)) ro), (1, .row 114 (.lst (enc secL q.S)) ro), (2, .row 2 (.lst (enc intL q.E)) ro)]
theorem rread_ctr {q : Rd} (hlen : q.S.length = q.n) {i : Int} (h1 : 0 ≤ i) (h2 : i < q.n) : Ctr Try.prog 79 [pt 0 0, iv i] (rdH q true) (.tuple #[secV (gt q.S i.toNat), iv 0]) [] := by
  exact pth (denQ ([.int .i64 (i)] ++ rdC q ++ [.int .i64 (q.n)] ++ secL (gt q.S ((i) : Int).toNat)) (by kernel_rfl) [.v (.slice (some ⟨1, 0, none⟩) q.n q.n), .v (.slice (some ⟨2, 0, none⟩) q.E.length q.E.length), .v (.pointer (some ⟨1, 0 + ((i) : Int).toNat * 64, none⟩))] rfl [enc secL q.S, enc intL q.E] (PL.cons (enc_plain secL_plain _) (PL.cons (enc_plain intL_plain _) no_rows))) ⟨[(.bin .lss 3 (sv 0) (.int .i64 0), .bool false), (.len 92 (.chan (some 0)), sv 4), (.bin .geq 3 (sv 0) (sv 4), .bool false), (.ixa 92 (.chan (some 0)) (sv 0), .chan (some 2))], [⟨114, 2, 1, 0, vA 5 64⟩], []⟩ [] ⟨qF ((i) < (0)) (by omega), asLen u92 rfl (by kernel_rfl), qF ((i) ≥ (q.n)) (by omega), asIxa u92 z114 rfl rfl (by omega) (by omega) rfl rfl, trivial⟩ ⟨ldE secL_len a114 z114 (by omega) rfl rfl (by kernel_rfl), trivial⟩ trivial trivial 3 ([(0, .row 122 (.lst (ch 0 :: ch 1 :: svs 1 3)) true), (1, .orow 114 0 true), (2, .orow 2 1 true)]) [pt 0 0, sv 0] []
noncomputable abbrev dRs (j : Jb) (n : Int) (q : Rd) (s e : Int) (out : List Rec) (le m : Int) : Den := denQ (jobL j ++ [iv n, iv s, iv e, iv le, iv m] ++ rdC q) rfl [.v (.slice (some ⟨1, 0, none⟩) q.n q.n), .v (.slice (some ⟨2, 0, none⟩) q.E.length q.E.length), om 5 out.length INF] rfl [enc secL q.S, enc intL q.E, enc recL out] (PL.cons (enc_plain secL_plain _) (PL.cons (enc_plain intL_plain _) (PL.cons (enc_plain recL_plain _) no_rows)))
def aRs : HL := [(0, .row 122 (.lst (ch 0 :: ch 1 :: svs 10 3)) true), (1, .orow 114 0 true), (2, .orow 2 1 true), (3, .row 24 (.lst (svs 0 5)) false), (4, .row 112 (.lst [sv 6, sv 7]) false)]
def fRs (v : Value) : FV := [(0, pt 0 0), (2, sv 5), (4, pt 3 0), (11, pt 4 0), (13, sv 8), (14, v), (15, sv 9)]
noncomputable def xRs : Cfg := headC (hd 34 0) .normal (fRs (ch 2)) 118 6 (aRs ++ [(5, .mrow 47 2 false)])
abbrev GRs (q : Rd) (j : Jb) (n s e : Int) (out : List Rec) (le m : Int) (res : Value) (B : HL) : Prop := GoodS (dRs j n q s e out le m) Try.prog 34 (rdH q true) res B [] xRs
section
variable {q : Rd} {j : Jb} {n s e le m : Int} {out : List Rec} {r : Rec} (hj : MayJ j) (hsb : 1 ≤ s ∧ s ≤ 2147483647)
include hj hsb
theorem rs_end (hm : m = s + j.log) : GRs q j n s e out le m (.tuple #[iv s, mSl 3 out.length INF 0, iv 0]) [(3, rowOr 47 (enc recL out) false)] := by
  have ⟨d1, d2⟩ := hj.l
  have hnb := hj.n
  · exact gF (denQ (jobL j ++ [.int .i64 (n), .int .i64 (s), .int .i64 (e), .int .i64 (le), .int .i64 (m)] ++ rdC q ++ [.int .i64 ((s) + (j.log))]) (by kernel_rfl) [.v (.slice (some ⟨1, 0, none⟩) q.n q.n), .v (.slice (some ⟨2, 0, none⟩) q.E.length q.E.length), om 5 out.length INF] rfl [enc secL q.S, enc intL q.E, enc recL out] (PL.cons (enc_plain secL_plain _) (PL.cons (enc_plain intL_plain _) (PL.cons (enc_plain recL_plain _) no_rows)))) ⟨[(.bin .add 2 (sv 6) (sv 3), sv 13), (.bin .lss 2 (sv 9) (sv 13), .bool false)], [], []⟩ [] ⟨aq (.int .i64 ((s) + (j.log))) (.int .i64 (IntKind.i64.wrap ((s) + (j.log)))) (wVi64 ((s) + (j.log)) (by omega) (by omega)), qF ((m) < ((s) + (j.log))) (by omega), trivial⟩ trivial trivial trivial 10 [(5, 3)]
theorem rs_max (hm1 : m < s + j.log) (hm : 2147483647 ≤ m) : GRs q j n s e out le m (.tuple #[iv s, mSl 3 out.length INF 0, iv 0]) [(3, rowOr 47 (enc recL out) false)] := by
  have ⟨d1, d2⟩ := hj.l
  have hnb := hj.n
  · exact gF (denQ (jobL j ++ [.int .i64 (n), .int .i64 (s), .int .i64 (e), .int .i64 (le), .int .i64 (m)] ++ rdC q ++ [.int .i64 ((s) + (j.log))]) (by kernel_rfl) [.v (.slice (some ⟨1, 0, none⟩) q.n q.n), .v (.slice (some ⟨2, 0, none⟩) q.E.length q.E.length), om 5 out.length INF] rfl [enc secL q.S, enc intL q.E, enc recL out] (PL.cons (enc_plain secL_plain _) (PL.cons (enc_plain intL_plain _) (PL.cons (enc_plain recL_plain _) no_rows)))) ⟨[(.bin .add 2 (sv 6) (sv 3), sv 13), (.bin .lss 2 (sv 9) (sv 13), .bool true), (.bin .lss 2 (sv 9) (.int .i64 2147483647), .bool false)], [], []⟩ [] ⟨aq (.int .i64 ((s) + (j.log))) (.int .i64 (IntKind.i64.wrap ((s) + (j.log)))) (wVi64 ((s) + (j.log)) (by omega) (by omega)), qT ((m) < ((s) + (j.log))) (by omega), qF ((m) < (2147483647)) (by omega), trivial⟩ trivial trivial trivial 10 [(5, 3)]
theorem rs_none (hn : 0 ≤ n ∧ n ≤ 8) (hk : 1 ≤ m ∧ m ≤ 2147483647) (hm1 : m < s + j.log) (hm2 : m < 2147483647)
    (h1 : Ctr Try.prog 79 [pt 0 0, iv (recAt j n m)] (rdH q true) (.tuple #[secV (gt q.S (recAt j n m).toNat), iv 0]) []) (h2 : Ctr Try.prog 79 [pt 0 0, iv (recAt j n m + 1)] (rdH q true) (.tuple #[secV (gt q.S (recAt j n m + 1).toNat), iv 0]) []) (hb : 9 ≤ recAt j n m ∧ recAt j n m ≤ 4096) (hG : Ctr Try.prog 83 [secV (gt q.S (recAt j n m).toNat), secV (gt q.S (recAt j n m + 1).toNat)] [] (.tuple #[recV zeroR, iv 12]) []) : GRs q j n s e out le m (.tuple #[iv s, mSl 3 out.length INF 0, iv 0]) [(3, rowOr 47 (enc recL out) false)] := by
  have ⟨d1, d2⟩ := hj.l
  have hnb := hj.n
  · exact gF (denQ (jobL j ++ [.int .i64 (n), .int .i64 (s), .int .i64 (e), .int .i64 (le), .int .i64 (m)] ++ rdC q ++ [.int .i64 ((s) + (j.log)), .int .i64 (recAt j n m)] ++ secL (gt q.S (recAt j n m).toNat) ++ [.int .i64 ((recAt j n m) + (1))] ++ secL (gt q.S (recAt j n m + 1).toNat)) (by kernel_rfl) [.v (.slice (some ⟨1, 0, none⟩) q.n q.n), .v (.slice (some ⟨2, 0, none⟩) q.E.length q.E.length), om 5 out.length INF] rfl [enc secL q.S, enc intL q.E, enc recL out] (PL.cons (enc_plain secL_plain _) (PL.cons (enc_plain intL_plain _) (PL.cons (enc_plain recL_plain _) no_rows)))) ⟨[(.bin .add 2 (sv 6) (sv 3), sv 13), (.bin .lss 2 (sv 9) (sv 13), .bool true), (.bin .lss 2 (sv 9) (.int .i64 2147483647), .bool true), (.bin .add 3 (sv 14) (.int .i64 1), sv 79)], [], []⟩ [(82, [⟨[.agg #[sv 0, sv 1, sv 2, sv 3, sv 4], sv 5, sv 9], 6, [], [], [], sv 14⟩, ⟨[.agg #[sv 0, sv 1, sv 2, sv 3, sv 4], sv 5, sv 9], 7, [], [], [], sv 14⟩]), (79, [⟨[.pointer (some ⟨0, 0, none⟩), sv 14], 6, [], [⟨0, 0, true, .row 122 (.lst ([.chan (some 0), .chan (some 1), sv 10, sv 11, sv 12])) true, .row 122 (.lst ([.chan (some 0), .chan (some 1), sv 10, sv 11, sv 12])) true⟩, ⟨1, 1, true, .orow 114 0 true, .orow 114 0 true⟩, ⟨2, 2, true, .orow 2 1 true, .orow 2 1 true⟩], [], .tuple #[.agg (svs 15 64).toArray, .int .i64 0]⟩, ⟨[.pointer (some ⟨0, 0, none⟩), sv 79], 7, [], [⟨0, 0, true, .row 122 (.lst ([.chan (some 0), .chan (some 1), sv 10, sv 11, sv 12])) true, .row 122 (.lst ([.chan (some 0), .chan (some 1), sv 10, sv 11, sv 12])) true⟩, ⟨1, 1, true, .orow 114 0 true, .orow 114 0 true⟩, ⟨2, 2, true, .orow 2 1 true, .orow 2 1 true⟩], [], .tuple #[.agg (svs 80 64).toArray, .int .i64 0]⟩]), (83, [⟨[.agg (svs 15 64).toArray, .agg (svs 80 64).toArray], 8, [], [], [], .tuple #[.agg ([.int .i64 0, .int .i64 0, .int .i64 0, .int .i64 0, .int .i64 0, .int .u8 0, .int .u8 0, .int .u8 0, .int .u8 0, .int .u8 0, .int .u8 0, .int .u8 0, .int .u8 0, .int .u8 0, .int .u8 0, .int .u8 0, .int .u8 0, .int .u8 0, .int .u8 0, .int .u8 0, .int .u8 0, .int .u8 0, .int .u8 0, .int .u8 0, .int .u8 0, .int .u8 0, .int .u8 0, .int .u8 0, .int .u8 0, .int .u8 0, .int .u8 0, .int .u8 0, .int .u8 0, .int .u8 0, .int .u8 0, .int .u8 0, .int .u8 0, .int .u8 0, .int .u8 0, .int .u8 0, .int .u8 0, .int .u8 0, .int .u8 0, .int .u8 0, .int .u8 0, .int .u8 0, .int .u8 0, .int .u8 0, .int .u8 0, .int .u8 0, .int .u8 0, .int .u8 0, .int .u8 0, .int .u8 0, .int .u8 0, .int .u8 0, .int .u8 0, .int .u8 0, .int .u8 0, .int .u8 0, .int .u8 0, .int .u8 0, .int .u8 0, .int .u8 0, .int .u8 0, .int .u8 0, .int .u8 0, .int .u8 0, .int .u8 0, .int .u8 0, .int .u8 0, .int .u8 0, .int .u8 0, .int .u8 0, .int .u8 0, .int .u8 0, .int .u8 0, .int .u8 0, .int .u8 0, .int .u8 0, .int .u8 0, .int .u8 0, .int .u8 0, .int .u8 0, .int .u8 0, .int .u8 0, .int .u8 0, .int .u8 0, .int .u8 0, .int .u8 0, .int .u8 0, .int .u8 0, .int .u8 0, .int .u8 0, .int .u8 0, .int .u8 0, .int .u8 0, .int .u8 0, .int .u8 0, .int .u8 0, .int .u8 0]).toArray, .int .i64 12]⟩])] ⟨aq (.int .i64 ((s) + (j.log))) (.int .i64 (IntKind.i64.wrap ((s) + (j.log)))) (wVi64 ((s) + (j.log)) (by omega) (by omega)), qT ((m) < ((s) + (j.log))) (by omega), qT ((m) < (2147483647)) (by omega), aq (.int .i64 ((recAt j n m) + (1))) (.int .i64 (IntKind.i64.wrap ((recAt j n m) + (1)))) (wVi64 ((recAt j n m) + (1)) (by omega) (by omega)), trivial⟩ trivial trivial ⟨oe2 (oe (recordR_ctr hj hn hk)) (oe (recordR_ctr hj hn hk)), oe2 (oe h1) (oe h2), oe hG, trivial⟩ 22 [(5, 3)]
theorem rs_1 (hn : 0 ≤ n ∧ n ≤ 8) (hk : 1 ≤ m ∧ m ≤ 2147483647) (hm1 : m < s + j.log) (hm2 : m < 2147483647)
    (h1 : Ctr Try.prog 79 [pt 0 0, iv (recAt j n m)] (rdH q true) (.tuple #[secV (gt q.S (recAt j n m).toNat), iv 0]) []) (h2 : Ctr Try.prog 79 [pt 0 0, iv (recAt j n m + 1)] (rdH q true) (.tuple #[secV (gt q.S (recAt j n m + 1).toNat), iv 0]) []) (hb : 9 ≤ recAt j n m ∧ recAt j n m ≤ 4096) (hG : Ctr Try.prog 83 [secV (gt q.S (recAt j n m).toNat), secV (gt q.S (recAt j n m + 1).toNat)] [] (.tuple #[recV r, iv 0]) []) (q0 : r.node ≠ n) : GRs q j n s e out le m (.tuple #[iv s, mSl 3 out.length INF 0, iv 0]) [(3, rowOr 47 (enc recL out) false)] := by
  have ⟨d1, d2⟩ := hj.l
  have hnb := hj.n
  · exact gF (denQ (jobL j ++ [.int .i64 (n), .int .i64 (s), .int .i64 (e), .int .i64 (le), .int .i64 (m)] ++ rdC q ++ [.int .i64 ((s) + (j.log)), .int .i64 (recAt j n m)] ++ secL (gt q.S (recAt j n m).toNat) ++ [.int .i64 ((recAt j n m) + (1))] ++ secL (gt q.S (recAt j n m + 1).toNat) ++ recL r) (by kernel_rfl) [.v (.slice (some ⟨1, 0, none⟩) q.n q.n), .v (.slice (some ⟨2, 0, none⟩) q.E.length q.E.length), om 5 out.length INF] rfl [enc secL q.S, enc intL q.E, enc recL out] (PL.cons (enc_plain secL_plain _) (PL.cons (enc_plain intL_plain _) (PL.cons (enc_plain recL_plain _) no_rows)))) ⟨[(.bin .add 2 (sv 6) (sv 3), sv 13), (.bin .lss 2 (sv 9) (sv 13), .bool true), (.bin .lss 2 (sv 9) (.int .i64 2147483647), .bool true), (.bin .add 3 (sv 14) (.int .i64 1), sv 79), (.bin .neq 3 (sv 144) (sv 5), .bool true)], [], []⟩ [(82, [⟨[.agg #[sv 0, sv 1, sv 2, sv 3, sv 4], sv 5, sv 9], 6, [], [], [], sv 14⟩, ⟨[.agg #[sv 0, sv 1, sv 2, sv 3, sv 4], sv 5, sv 9], 7, [], [], [], sv 14⟩]), (79, [⟨[.pointer (some ⟨0, 0, none⟩), sv 14], 6, [], [⟨0, 0, true, .row 122 (.lst ([.chan (some 0), .chan (some 1), sv 10, sv 11, sv 12])) true, .row 122 (.lst ([.chan (some 0), .chan (some 1), sv 10, sv 11, sv 12])) true⟩, ⟨1, 1, true, .orow 114 0 true, .orow 114 0 true⟩, ⟨2, 2, true, .orow 2 1 true, .orow 2 1 true⟩], [], .tuple #[.agg (svs 15 64).toArray, .int .i64 0]⟩, ⟨[.pointer (some ⟨0, 0, none⟩), sv 79], 7, [], [⟨0, 0, true, .row 122 (.lst ([.chan (some 0), .chan (some 1), sv 10, sv 11, sv 12])) true, .row 122 (.lst ([.chan (some 0), .chan (some 1), sv 10, sv 11, sv 12])) true⟩, ⟨1, 1, true, .orow 114 0 true, .orow 114 0 true⟩, ⟨2, 2, true, .orow 2 1 true, .orow 2 1 true⟩], [], .tuple #[.agg (svs 80 64).toArray, .int .i64 0]⟩]), (83, [⟨[.agg (svs 15 64).toArray, .agg (svs 80 64).toArray], 8, [], [], [], .tuple #[.agg (svs 144 101).toArray, .int .i64 0]⟩])] ⟨aq (.int .i64 ((s) + (j.log))) (.int .i64 (IntKind.i64.wrap ((s) + (j.log)))) (wVi64 ((s) + (j.log)) (by omega) (by omega)), qT ((m) < ((s) + (j.log))) (by omega), qT ((m) < (2147483647)) (by omega), aq (.int .i64 ((recAt j n m) + (1))) (.int .i64 (IntKind.i64.wrap ((recAt j n m) + (1)))) (wVi64 ((recAt j n m) + (1)) (by omega) (by omega)), nT (r.node) (n) (by omega), trivial⟩ trivial trivial ⟨oe2 (oe (recordR_ctr hj hn hk)) (oe (recordR_ctr hj hn hk)), oe2 (oe h1) (oe h2), oe hG, trivial⟩ 22 [(5, 3)]
theorem rs_2 (hn : 0 ≤ n ∧ n ≤ 8) (hk : 1 ≤ m ∧ m ≤ 2147483647) (hm1 : m < s + j.log) (hm2 : m < 2147483647)
    (h1 : Ctr Try.prog 79 [pt 0 0, iv (recAt j n m)] (rdH q true) (.tuple #[secV (gt q.S (recAt j n m).toNat), iv 0]) []) (h2 : Ctr Try.prog 79 [pt 0 0, iv (recAt j n m + 1)] (rdH q true) (.tuple #[secV (gt q.S (recAt j n m + 1).toNat), iv 0]) []) (hb : 9 ≤ recAt j n m ∧ recAt j n m ≤ 4096) (hG : Ctr Try.prog 83 [secV (gt q.S (recAt j n m).toNat), secV (gt q.S (recAt j n m + 1).toNat)] [] (.tuple #[recV r, iv 0]) []) (q1 : r.node = n) (q0 : r.lsn ≠ m) : GRs q j n s e out le m (.tuple #[iv s, mSl 3 out.length INF 0, iv 0]) [(3, rowOr 47 (enc recL out) false)] := by
  have ⟨d1, d2⟩ := hj.l
  have hnb := hj.n
  · exact gF (denQ (jobL j ++ [.int .i64 (n), .int .i64 (s), .int .i64 (e), .int .i64 (le), .int .i64 (m)] ++ rdC q ++ [.int .i64 ((s) + (j.log)), .int .i64 (recAt j n m)] ++ secL (gt q.S (recAt j n m).toNat) ++ [.int .i64 ((recAt j n m) + (1))] ++ secL (gt q.S (recAt j n m + 1).toNat) ++ recL r) (by kernel_rfl) [.v (.slice (some ⟨1, 0, none⟩) q.n q.n), .v (.slice (some ⟨2, 0, none⟩) q.E.length q.E.length), om 5 out.length INF] rfl [enc secL q.S, enc intL q.E, enc recL out] (PL.cons (enc_plain secL_plain _) (PL.cons (enc_plain intL_plain _) (PL.cons (enc_plain recL_plain _) no_rows)))) ⟨[(.bin .add 2 (sv 6) (sv 3), sv 13), (.bin .lss 2 (sv 9) (sv 13), .bool true), (.bin .lss 2 (sv 9) (.int .i64 2147483647), .bool true), (.bin .add 3 (sv 14) (.int .i64 1), sv 79), (.bin .neq 3 (sv 144) (sv 5), .bool false), (.bin .neq 2 (sv 146) (sv 9), .bool true)], [], []⟩ [(82, [⟨[.agg #[sv 0, sv 1, sv 2, sv 3, sv 4], sv 5, sv 9], 6, [], [], [], sv 14⟩, ⟨[.agg #[sv 0, sv 1, sv 2, sv 3, sv 4], sv 5, sv 9], 7, [], [], [], sv 14⟩]), (79, [⟨[.pointer (some ⟨0, 0, none⟩), sv 14], 6, [], [⟨0, 0, true, .row 122 (.lst ([.chan (some 0), .chan (some 1), sv 10, sv 11, sv 12])) true, .row 122 (.lst ([.chan (some 0), .chan (some 1), sv 10, sv 11, sv 12])) true⟩, ⟨1, 1, true, .orow 114 0 true, .orow 114 0 true⟩, ⟨2, 2, true, .orow 2 1 true, .orow 2 1 true⟩], [], .tuple #[.agg (svs 15 64).toArray, .int .i64 0]⟩, ⟨[.pointer (some ⟨0, 0, none⟩), sv 79], 7, [], [⟨0, 0, true, .row 122 (.lst ([.chan (some 0), .chan (some 1), sv 10, sv 11, sv 12])) true, .row 122 (.lst ([.chan (some 0), .chan (some 1), sv 10, sv 11, sv 12])) true⟩, ⟨1, 1, true, .orow 114 0 true, .orow 114 0 true⟩, ⟨2, 2, true, .orow 2 1 true, .orow 2 1 true⟩], [], .tuple #[.agg (svs 80 64).toArray, .int .i64 0]⟩]), (83, [⟨[.agg (svs 15 64).toArray, .agg (svs 80 64).toArray], 8, [], [], [], .tuple #[.agg (svs 144 101).toArray, .int .i64 0]⟩])] ⟨aq (.int .i64 ((s) + (j.log))) (.int .i64 (IntKind.i64.wrap ((s) + (j.log)))) (wVi64 ((s) + (j.log)) (by omega) (by omega)), qT ((m) < ((s) + (j.log))) (by omega), qT ((m) < (2147483647)) (by omega), aq (.int .i64 ((recAt j n m) + (1))) (.int .i64 (IntKind.i64.wrap ((recAt j n m) + (1)))) (wVi64 ((recAt j n m) + (1)) (by omega) (by omega)), nF (r.node) (n) (by omega), nT (r.lsn) (m) (by omega), trivial⟩ trivial trivial ⟨oe2 (oe (recordR_ctr hj hn hk)) (oe (recordR_ctr hj hn hk)), oe2 (oe h1) (oe h2), oe hG, trivial⟩ 22 [(5, 3)]
theorem rs_3 (hn : 0 ≤ n ∧ n ≤ 8) (hk : 1 ≤ m ∧ m ≤ 2147483647) (hm1 : m < s + j.log) (hm2 : m < 2147483647)
    (h1 : Ctr Try.prog 79 [pt 0 0, iv (recAt j n m)] (rdH q true) (.tuple #[secV (gt q.S (recAt j n m).toNat), iv 0]) []) (h2 : Ctr Try.prog 79 [pt 0 0, iv (recAt j n m + 1)] (rdH q true) (.tuple #[secV (gt q.S (recAt j n m + 1).toNat), iv 0]) []) (hb : 9 ≤ recAt j n m ∧ recAt j n m ≤ 4096) (hG : Ctr Try.prog 83 [secV (gt q.S (recAt j n m).toNat), secV (gt q.S (recAt j n m + 1).toNat)] [] (.tuple #[recV r, iv 0]) []) (q1 : r.node = n) (q2 : r.lsn = m) (q0 : r.epoch < le) : GRs q j n s e out le m (.tuple #[iv s, mSl 3 out.length INF 0, iv 0]) [(3, rowOr 47 (enc recL out) false)] := by
  have ⟨d1, d2⟩ := hj.l
  have hnb := hj.n
  · exact gF (denQ (jobL j ++ [.int .i64 (n), .int .i64 (s), .int .i64 (e), .int .i64 (le), .int .i64 (m)] ++ rdC q ++ [.int .i64 ((s) + (j.log)), .int .i64 (recAt j n m)] ++ secL (gt q.S (recAt j n m).toNat) ++ [.int .i64 ((recAt j n m) + (1))] ++ secL (gt q.S (recAt j n m + 1).toNat) ++ recL r) (by kernel_rfl) [.v (.slice (some ⟨1, 0, none⟩) q.n q.n), .v (.slice (some ⟨2, 0, none⟩) q.E.length q.E.length), om 5 out.length INF] rfl [enc secL q.S, enc intL q.E, enc recL out] (PL.cons (enc_plain secL_plain _) (PL.cons (enc_plain intL_plain _) (PL.cons (enc_plain recL_plain _) no_rows)))) ⟨[(.bin .add 2 (sv 6) (sv 3), sv 13), (.bin .lss 2 (sv 9) (sv 13), .bool true), (.bin .lss 2 (sv 9) (.int .i64 2147483647), .bool true), (.bin .add 3 (sv 14) (.int .i64 1), sv 79), (.bin .neq 3 (sv 144) (sv 5), .bool false), (.bin .neq 2 (sv 146) (sv 9), .bool false), (.bin .lss 2 (sv 145) (sv 8), .bool true)], [], []⟩ [(82, [⟨[.agg #[sv 0, sv 1, sv 2, sv 3, sv 4], sv 5, sv 9], 6, [], [], [], sv 14⟩, ⟨[.agg #[sv 0, sv 1, sv 2, sv 3, sv 4], sv 5, sv 9], 7, [], [], [], sv 14⟩]), (79, [⟨[.pointer (some ⟨0, 0, none⟩), sv 14], 6, [], [⟨0, 0, true, .row 122 (.lst ([.chan (some 0), .chan (some 1), sv 10, sv 11, sv 12])) true, .row 122 (.lst ([.chan (some 0), .chan (some 1), sv 10, sv 11, sv 12])) true⟩, ⟨1, 1, true, .orow 114 0 true, .orow 114 0 true⟩, ⟨2, 2, true, .orow 2 1 true, .orow 2 1 true⟩], [], .tuple #[.agg (svs 15 64).toArray, .int .i64 0]⟩, ⟨[.pointer (some ⟨0, 0, none⟩), sv 79], 7, [], [⟨0, 0, true, .row 122 (.lst ([.chan (some 0), .chan (some 1), sv 10, sv 11, sv 12])) true, .row 122 (.lst ([.chan (some 0), .chan (some 1), sv 10, sv 11, sv 12])) true⟩, ⟨1, 1, true, .orow 114 0 true, .orow 114 0 true⟩, ⟨2, 2, true, .orow 2 1 true, .orow 2 1 true⟩], [], .tuple #[.agg (svs 80 64).toArray, .int .i64 0]⟩]), (83, [⟨[.agg (svs 15 64).toArray, .agg (svs 80 64).toArray], 8, [], [], [], .tuple #[.agg (svs 144 101).toArray, .int .i64 0]⟩])] ⟨aq (.int .i64 ((s) + (j.log))) (.int .i64 (IntKind.i64.wrap ((s) + (j.log)))) (wVi64 ((s) + (j.log)) (by omega) (by omega)), qT ((m) < ((s) + (j.log))) (by omega), qT ((m) < (2147483647)) (by omega), aq (.int .i64 ((recAt j n m) + (1))) (.int .i64 (IntKind.i64.wrap ((recAt j n m) + (1)))) (wVi64 ((recAt j n m) + (1)) (by omega) (by omega)), nF (r.node) (n) (by omega), nF (r.lsn) (m) (by omega), qT ((r.epoch) < (le)) (by omega), trivial⟩ trivial trivial ⟨oe2 (oe (recordR_ctr hj hn hk)) (oe (recordR_ctr hj hn hk)), oe2 (oe h1) (oe h2), oe hG, trivial⟩ 22 [(5, 3)]
theorem rs_4 (hn : 0 ≤ n ∧ n ≤ 8) (hk : 1 ≤ m ∧ m ≤ 2147483647) (hm1 : m < s + j.log) (hm2 : m < 2147483647)
    (h1 : Ctr Try.prog 79 [pt 0 0, iv (recAt j n m)] (rdH q true) (.tuple #[secV (gt q.S (recAt j n m).toNat), iv 0]) []) (h2 : Ctr Try.prog 79 [pt 0 0, iv (recAt j n m + 1)] (rdH q true) (.tuple #[secV (gt q.S (recAt j n m + 1).toNat), iv 0]) []) (hb : 9 ≤ recAt j n m ∧ recAt j n m ≤ 4096) (hG : Ctr Try.prog 83 [secV (gt q.S (recAt j n m).toNat), secV (gt q.S (recAt j n m + 1).toNat)] [] (.tuple #[recV r, iv 0]) []) (q1 : r.node = n) (q2 : r.lsn = m) (q3 : le ≤ r.epoch) (q0 : j.pages ≤ r.page) : GRs q j n s e out le m (.tuple #[iv s, mSl 3 out.length INF 0, iv 0]) [(3, rowOr 47 (enc recL out) false)] := by
  have ⟨d1, d2⟩ := hj.l
  have hnb := hj.n
  · exact gF (denQ (jobL j ++ [.int .i64 (n), .int .i64 (s), .int .i64 (e), .int .i64 (le), .int .i64 (m)] ++ rdC q ++ [.int .i64 ((s) + (j.log)), .int .i64 (recAt j n m)] ++ secL (gt q.S (recAt j n m).toNat) ++ [.int .i64 ((recAt j n m) + (1))] ++ secL (gt q.S (recAt j n m + 1).toNat) ++ recL r) (by kernel_rfl) [.v (.slice (some ⟨1, 0, none⟩) q.n q.n), .v (.slice (some ⟨2, 0, none⟩) q.E.length q.E.length), om 5 out.length INF] rfl [enc secL q.S, enc intL q.E, enc recL out] (PL.cons (enc_plain secL_plain _) (PL.cons (enc_plain intL_plain _) (PL.cons (enc_plain recL_plain _) no_rows)))) ⟨[(.bin .add 2 (sv 6) (sv 3), sv 13), (.bin .lss 2 (sv 9) (sv 13), .bool true), (.bin .lss 2 (sv 9) (.int .i64 2147483647), .bool true), (.bin .add 3 (sv 14) (.int .i64 1), sv 79), (.bin .neq 3 (sv 144) (sv 5), .bool false), (.bin .neq 2 (sv 146) (sv 9), .bool false), (.bin .lss 2 (sv 145) (sv 8), .bool false), (.bin .geq 3 (sv 147) (sv 1), .bool true)], [], []⟩ [(82, [⟨[.agg #[sv 0, sv 1, sv 2, sv 3, sv 4], sv 5, sv 9], 6, [], [], [], sv 14⟩, ⟨[.agg #[sv 0, sv 1, sv 2, sv 3, sv 4], sv 5, sv 9], 7, [], [], [], sv 14⟩]), (79, [⟨[.pointer (some ⟨0, 0, none⟩), sv 14], 6, [], [⟨0, 0, true, .row 122 (.lst ([.chan (some 0), .chan (some 1), sv 10, sv 11, sv 12])) true, .row 122 (.lst ([.chan (some 0), .chan (some 1), sv 10, sv 11, sv 12])) true⟩, ⟨1, 1, true, .orow 114 0 true, .orow 114 0 true⟩, ⟨2, 2, true, .orow 2 1 true, .orow 2 1 true⟩], [], .tuple #[.agg (svs 15 64).toArray, .int .i64 0]⟩, ⟨[.pointer (some ⟨0, 0, none⟩), sv 79], 7, [], [⟨0, 0, true, .row 122 (.lst ([.chan (some 0), .chan (some 1), sv 10, sv 11, sv 12])) true, .row 122 (.lst ([.chan (some 0), .chan (some 1), sv 10, sv 11, sv 12])) true⟩, ⟨1, 1, true, .orow 114 0 true, .orow 114 0 true⟩, ⟨2, 2, true, .orow 2 1 true, .orow 2 1 true⟩], [], .tuple #[.agg (svs 80 64).toArray, .int .i64 0]⟩]), (83, [⟨[.agg (svs 15 64).toArray, .agg (svs 80 64).toArray], 8, [], [], [], .tuple #[.agg (svs 144 101).toArray, .int .i64 0]⟩])] ⟨aq (.int .i64 ((s) + (j.log))) (.int .i64 (IntKind.i64.wrap ((s) + (j.log)))) (wVi64 ((s) + (j.log)) (by omega) (by omega)), qT ((m) < ((s) + (j.log))) (by omega), qT ((m) < (2147483647)) (by omega), aq (.int .i64 ((recAt j n m) + (1))) (.int .i64 (IntKind.i64.wrap ((recAt j n m) + (1)))) (wVi64 ((recAt j n m) + (1)) (by omega) (by omega)), nF (r.node) (n) (by omega), nF (r.lsn) (m) (by omega), qF ((r.epoch) < (le)) (by omega), qT ((r.page) ≥ (j.pages)) (by omega), trivial⟩ trivial trivial ⟨oe2 (oe (recordR_ctr hj hn hk)) (oe (recordR_ctr hj hn hk)), oe2 (oe h1) (oe h2), oe hG, trivial⟩ 22 [(5, 3)]
theorem rs_ok {res : Value} {B : HL} (hn : 0 ≤ n ∧ n ≤ 8) (hk : 1 ≤ m ∧ m ≤ 2147483647) (hm1 : m < s + j.log) (hm2 : m < 2147483647)
    (h1 : Ctr Try.prog 79 [pt 0 0, iv (recAt j n m)] (rdH q true) (.tuple #[secV (gt q.S (recAt j n m).toNat), iv 0]) []) (h2 : Ctr Try.prog 79 [pt 0 0, iv (recAt j n m + 1)] (rdH q true) (.tuple #[secV (gt q.S (recAt j n m + 1).toNat), iv 0]) []) (hb : 9 ≤ recAt j n m ∧ recAt j n m ≤ 4096) (hG : Ctr Try.prog 83 [secV (gt q.S (recAt j n m).toNat), secV (gt q.S (recAt j n m + 1).toNat)] [] (.tuple #[recV r, iv 0]) []) (q1 : r.node = n) (q2 : r.lsn = m) (q3 : le ≤ r.epoch) (q4 : r.page < j.pages) (hol : out.length < 1000000) (hg : GRs q j n s e (out ++ [r]) r.epoch (m + 1) res B) : GRs q j n s e out le m res B := by
  have ⟨d1, d2⟩ := hj.l
  have hnb := hj.n
  · exact gS (denQ (jobL j ++ [.int .i64 (n), .int .i64 (s), .int .i64 (e), .int .i64 (le), .int .i64 (m)] ++ rdC q ++ [.int .i64 ((s) + (j.log)), .int .i64 (recAt j n m)] ++ secL (gt q.S (recAt j n m).toNat) ++ [.int .i64 ((recAt j n m) + (1))] ++ secL (gt q.S (recAt j n m + 1).toNat) ++ recL r ++ [.int .i64 ((m) + (1))]) (by kernel_rfl) [.v (.slice (some ⟨1, 0, none⟩) q.n q.n), .v (.slice (some ⟨2, 0, none⟩) q.E.length q.E.length), om 5 out.length INF, om 10 (out ++ [r]).length INF] rfl [enc secL q.S, enc intL q.E, enc recL out, enc recL (out ++ [r])] (PL.cons (enc_plain secL_plain _) (PL.cons (enc_plain intL_plain _) (PL.cons (enc_plain recL_plain _) (PL.cons (enc_plain recL_plain _) no_rows))))) (dRs j n q s e (out ++ [r]) r.epoch (m + 1)) ⟨[(.bin .add 2 (sv 6) (sv 3), sv 13), (.bin .lss 2 (sv 9) (sv 13), .bool true), (.bin .lss 2 (sv 9) (.int .i64 2147483647), .bool true), (.bin .add 3 (sv 14) (.int .i64 1), sv 79), (.bin .neq 3 (sv 144) (sv 5), .bool false), (.bin .neq 2 (sv 146) (sv 9), .bool false), (.bin .lss 2 (sv 145) (sv 8), .bool false), (.bin .geq 3 (sv 147) (sv 1), .bool false), (.bin .add 2 (sv 9) (.int .i64 1), sv 245)], [], [([43, 43], ⟨[.chan (some 2), .slice (some ⟨9, 0, none⟩) 1 1], 10, [], [⟨5, 0, false, .mrow 47 2 false, .dead⟩, ⟨9, 1, true, .row 47 (.lst (svs 144 101)) false, .row 47 (.lst (svs 144 101)) false⟩], [(2, .mrow 47 3 false)], .chan (some 3)⟩)]⟩ [(82, [⟨[.agg #[sv 0, sv 1, sv 2, sv 3, sv 4], sv 5, sv 9], 6, [], [], [], sv 14⟩, ⟨[.agg #[sv 0, sv 1, sv 2, sv 3, sv 4], sv 5, sv 9], 7, [], [], [], sv 14⟩]), (79, [⟨[.pointer (some ⟨0, 0, none⟩), sv 14], 6, [], [⟨0, 0, true, .row 122 (.lst ([.chan (some 0), .chan (some 1), sv 10, sv 11, sv 12])) true, .row 122 (.lst ([.chan (some 0), .chan (some 1), sv 10, sv 11, sv 12])) true⟩, ⟨1, 1, true, .orow 114 0 true, .orow 114 0 true⟩, ⟨2, 2, true, .orow 2 1 true, .orow 2 1 true⟩], [], .tuple #[.agg (svs 15 64).toArray, .int .i64 0]⟩, ⟨[.pointer (some ⟨0, 0, none⟩), sv 79], 7, [], [⟨0, 0, true, .row 122 (.lst ([.chan (some 0), .chan (some 1), sv 10, sv 11, sv 12])) true, .row 122 (.lst ([.chan (some 0), .chan (some 1), sv 10, sv 11, sv 12])) true⟩, ⟨1, 1, true, .orow 114 0 true, .orow 114 0 true⟩, ⟨2, 2, true, .orow 2 1 true, .orow 2 1 true⟩], [], .tuple #[.agg (svs 80 64).toArray, .int .i64 0]⟩]), (83, [⟨[.agg (svs 15 64).toArray, .agg (svs 80 64).toArray], 8, [], [], [], .tuple #[.agg (svs 144 101).toArray, .int .i64 0]⟩])] ⟨aq (.int .i64 ((s) + (j.log))) (.int .i64 (IntKind.i64.wrap ((s) + (j.log)))) (wVi64 ((s) + (j.log)) (by omega) (by omega)), qT ((m) < ((s) + (j.log))) (by omega), qT ((m) < (2147483647)) (by omega), aq (.int .i64 ((recAt j n m) + (1))) (.int .i64 (IntKind.i64.wrap ((recAt j n m) + (1)))) (wVi64 ((recAt j n m) + (1)) (by omega) (by omega)), nF (r.node) (n) (by omega), nF (r.lsn) (m) (by omega), qF ((r.epoch) < (le)) (by omega), qF ((r.page) ≥ (j.pages)) (by omega), aq (.int .i64 ((m) + (1))) (.int .i64 (IntKind.i64.wrap ((m) + (1)))) (wVi64 ((m) + (1)) (by omega) (by omega)), trivial⟩ trivial ⟨ap (appR (z := 0) out r 1 hol), trivial⟩ ⟨oe2 (oe (recordR_ctr hj hn hk)) (oe (recordR_ctr hj hn hk)), oe2 (oe h1) (oe h2), oe hG, trivial⟩ 22 [(0, 0), (1, 1), (2, 2), (3, 3), (4, 4), (10, 5)] hg
end
theorem getMR_get {a b : Sec} (ha : Byte a) : (∃ r, getM a b = some r ∧ Ctr Try.prog 83 [secV a, secV b] [] (.tuple #[recV r, iv 0]) []) ∨ (getM a b = none ∧ Ctr Try.prog 83 [secV a, secV b] [] (.tuple #[recV zeroR, iv 12]) []) := by
  have h := getR_ctr (b := b) ha
  unfold getV at h
  unfold getM
  by_cases h1 : May (said a b)
  · rw [if_pos h1] at h ⊢
    by_cases h2 : eqP (half (said a b) 0) (half (said a b) 1) a b = true
    · rw [if_pos h2] at h ⊢; exact .inl ⟨_, rfl, h⟩
    · rw [if_neg h2] at h ⊢; exact .inr ⟨rfl, h⟩
  · rw [if_neg h1] at h ⊢; exact .inr ⟨rfl, h⟩
theorem scanL_1 (d : Dv) (j : Jb) (n : Int) {m le : Int} (h : 0 ≤ le) : ∀ k : Nat, scanL d j n k m (max1 le) = scanL d j n k m le
  | 0 => rfl
  | k + 1 => by
    simp only [scanL]
    split
    · cases hg : getM (gt d.S (recAt j n m).toNat) (gt d.S (recAt j n m + 1).toNat) with
      | none => rfl
      | some r =>
        have h1 : 1 ≤ r.epoch := by
          unfold getM at hg
          split at hg
          · rename_i hm
            split at hg
            · cases hg; exact hm.e.1
            · cases hg
          · cases hg
        simp only
        have : (max1 le ≤ r.epoch) = (le ≤ r.epoch) := by unfold max1; apply propext; split <;> omega
        simp only [this]
    · rfl
theorem rs_all {q : Rd} {d : Dv} (hd : DOK d) (hS : q.S = d.S) (hn' : q.n = d.n) {j : Jb} (hj : MayJ j) (hs : sects j = d.n) {n s e : Int} (hn : 0 ≤ n ∧ n < j.nodes) (hsb : 1 ≤ s ∧ s ≤ 2147483647) : ∀ (k : Nat) (m : Int) (out : List Rec) (le : Int), m + k = s + j.log → s ≤ m → out.length + k ≤ 64 →
    GRs q j n s e out le m (.tuple #[iv s, mSl 3 (out ++ scanL d j n k m le).length INF 0, iv 0]) [(3, rowOr 47 (enc recL (out ++ scanL d j n k m le)) false)]
  | 0, m, out, le, h, h0, h1 => by
    simp only [scanL, List.append_nil]
    exact rs_end hj hsb (by omega)
  | k + 1, m, out, le, h, h0, h1 => by
    have hnn := hj.n
    by_cases hm : m < 2147483647
    · simp only [scanL, if_pos hm]
      have hb := recAt_bd hj hn m
      have hql : q.S.length = q.n := by rw [hS, hn']; exact hd.len
      have r1 := rread_ctr (q := q) hql (i := recAt j n m) (by omega) (by omega)
      have r2 := rread_ctr (q := q) hql (i := recAt j n m + 1) (by omega) (by omega)
      have hsz := sects_bd hj
      have hby : Byte (gt q.S (recAt j n m).toNat) := by rw [hS]; exact gt_byte hd _
      rcases getMR_get (b := gt q.S (recAt j n m + 1).toNat) hby with ⟨r, hr, hG⟩ | ⟨hr, hG⟩
      · rw [hS] at hr
        rw [hr]
        simp only
        by_cases q1 : r.node = n
        · by_cases q2 : r.lsn = m
          · by_cases q3 : le ≤ r.epoch
            · by_cases q4 : r.page < j.pages
              · rw [if_pos ⟨q1, q2, q3, q4⟩, List.append_cons]
                exact rs_ok hj hsb (by omega) (by omega) (by omega) hm r1 r2 (by omega) hG q1 q2 q3 q4 (by omega) (rs_all hd hS hn' hj hs hn hsb k (m + 1) (out ++ [r]) r.epoch (by omega) (by omega) (by simp; omega))
              · rw [if_neg fun h => q4 h.2.2.2, List.append_nil]
                exact rs_4 hj hsb (by omega) (by omega) (by omega) hm r1 r2 (by omega) hG q1 q2 q3 (by omega)
            · rw [if_neg fun h => q3 h.2.2.1, List.append_nil]
              exact rs_3 hj hsb (by omega) (by omega) (by omega) hm r1 r2 (by omega) hG q1 q2 (by omega)
          · rw [if_neg fun h => q2 h.2.1, List.append_nil]
            exact rs_2 hj hsb (by omega) (by omega) (by omega) hm r1 r2 (by omega) hG q1 q2
        · rw [if_neg fun h => q1 h.1, List.append_nil]
          exact rs_1 hj hsb (by omega) (by omega) (by omega) hm r1 r2 (by omega) hG q1
      · rw [hS] at hr
        rw [hr]
        simp only [List.append_nil]
        exact rs_none hj hsb (by omega) (by omega) (by omega) hm r1 r2 (by omega) hG
    · simp only [scanL, if_neg hm, List.append_nil]
      exact rs_max hj hsb (by omega) (by omega)
section
variable {q : Rd} {d : Dv} (hd : DOK d) (hS : q.S = d.S) (hn' : q.n = d.n) {j : Jb} (hj : MayJ j) (hs : sects j = d.n) {n : Int} (hn : 0 ≤ n ∧ n < j.nodes)
include hd hS hn' hj hs hn
theorem head_read : Ctr Try.prog 79 [pt 0 0, iv (headAt j n)] (rdH q true) (.tuple #[secV (gt q.S (headAt j n).toNat), iv 0]) [] := by
  have hb := headAt_bd hj (n := n) ⟨hn.1, by have := hj.n; omega⟩
  have hb2 := recAt_bd hj hn 1
  have hq : headAt j n < sects j := by have hl := hj.l; have := Int.emod_nonneg (1 - 1) (b := j.log) (by omega); unfold recAt at hb2; omega
  exact rread_ctr (by rw [hS, hn']; exact hd.len) (by omega) (by omega)
theorem readR_ok {s e : Int} (hsb : 1 ≤ s ∧ s ≤ 2147483647) (he : 0 ≤ e) (hh : headV (gt d.S (headAt j n).toNat) = .tuple #[.agg #[iv s, iv e], iv 0]) :
    Ctr Try.prog 34 [pt 0 0, jobV j, iv n] (rdH q true) (.tuple #[iv s, mSl 3 (scanL d j n j.log.toNat s (max1 e)).length INF 0, iv 0]) [(3, rowOr 47 (enc recL (scanL d j n j.log.toNat s (max1 e))) false)] := by
  rw [scanL_1 d j n he]
  have hn8 : 0 ≤ n ∧ n ≤ 8 := by have := hj.n; omega
  have hg := rs_all (q := q) hd hS hn' hj hs (e := e) hn hsb j.log.toNat s [] e (by have := hj.l; omega) (Int.le_refl _) (by have := hj.l; simp; omega)
  simp only [List.nil_append] at hg
  have hrd := head_read hd hS hn' hj hs hn
  have ht := takeR_ctr (s := gt q.S (headAt j n).toNat) (by rw [hS]; exact gt_byte hd _)
  rw [hS] at ht
  rw [hh] at ht
  rw [← hS] at ht
  have hg := goodS_slots (fv := fRs (ch 2)) (fv' := fRs (.slice none 0 0)) (by simp only [slotsOK, fRs]; exact ⟨trivial, .inl trivial, trivial, .inl trivial, trivial, .inl trivial, trivial, .inl trivial, trivial, .inl trivial, trivial, .inr ⟨2, rfl, rfl⟩, trivial, .inl trivial, trivial⟩) (goodS_ghost (A2 := aRs) hg rfl rfl)
  · exact g0 (denQ (jobL j ++ [.int .i64 (n)] ++ rdC q ++ [.int .i64 (headAt j n)] ++ secL (gt q.S (headAt j n).toNat) ++ [.int .i64 (s), .int .i64 (e)]) (by kernel_rfl) [.v (.slice (some ⟨1, 0, none⟩) q.n q.n), .v (.slice (some ⟨2, 0, none⟩) q.E.length q.E.length)] rfl [enc secL q.S, enc intL q.E] (PL.cons (enc_plain secL_plain _) (PL.cons (enc_plain intL_plain _) no_rows))) (dRs j n q s e [] e s) ⟨[], [], []⟩ [(80, [⟨[.agg #[sv 0, sv 1, sv 2, sv 3, sv 4], sv 5], 4, [], [], [], sv 9⟩]), (79, [⟨[.pointer (some ⟨0, 0, none⟩), sv 9], 4, [], [⟨0, 0, true, .row 122 (.lst ([.chan (some 0), .chan (some 1), sv 6, sv 7, sv 8])) true, .row 122 (.lst ([.chan (some 0), .chan (some 1), sv 6, sv 7, sv 8])) true⟩, ⟨1, 1, true, .orow 114 0 true, .orow 114 0 true⟩, ⟨2, 2, true, .orow 2 1 true, .orow 2 1 true⟩], [], .tuple #[.agg (svs 10 64).toArray, .int .i64 0]⟩]), (81, [⟨[.agg (svs 10 64).toArray], 5, [], [], [], .tuple #[.agg #[sv 74, sv 75], .int .i64 0]⟩])] trivial trivial trivial ⟨oe (headR_ctr hj hn8), oe hrd, oe ht, trivial⟩ 19 3 ([(0, .row 122 (.lst (ch 0 :: ch 1 :: svs 6 3)) true), (1, .orow 114 0 true), (2, .orow 2 1 true)]) [pt 0 0, vA 0 5, sv 5] [(0, 0), (1, 1), (2, 2), (3, 3), (5, 4)] hg
theorem readR_bad (hh : headV (gt d.S (headAt j n).toNat) = .tuple #[.agg #[iv 0, iv 0], iv 12]) : Ctr Try.prog 34 [pt 0 0, jobV j, iv n] (rdH q true) (.tuple #[iv 0, .slice none 0 0, iv 12]) [] := by
  have hn8 : 0 ≤ n ∧ n ≤ 8 := by have := hj.n; omega
  have hrd := head_read hd hS hn' hj hs hn
  have ht := takeR_ctr (s := gt q.S (headAt j n).toNat) (by rw [hS]; exact gt_byte hd _)
  rw [hS] at ht
  rw [hh] at ht
  rw [← hS] at ht
  exact pth (denQ (jobL j ++ [.int .i64 (n)] ++ rdC q ++ [.int .i64 (headAt j n)] ++ secL (gt q.S (headAt j n).toNat)) (by kernel_rfl) [.v (.slice (some ⟨1, 0, none⟩) q.n q.n), .v (.slice (some ⟨2, 0, none⟩) q.E.length q.E.length)] rfl [enc secL q.S, enc intL q.E] (PL.cons (enc_plain secL_plain _) (PL.cons (enc_plain intL_plain _) no_rows))) ⟨[], [], []⟩ [(80, [⟨[.agg #[sv 0, sv 1, sv 2, sv 3, sv 4], sv 5], 4, [], [], [], sv 9⟩]), (79, [⟨[.pointer (some ⟨0, 0, none⟩), sv 9], 4, [], [⟨0, 0, true, .row 122 (.lst ([.chan (some 0), .chan (some 1), sv 6, sv 7, sv 8])) true, .row 122 (.lst ([.chan (some 0), .chan (some 1), sv 6, sv 7, sv 8])) true⟩, ⟨1, 1, true, .orow 114 0 true, .orow 114 0 true⟩, ⟨2, 2, true, .orow 2 1 true, .orow 2 1 true⟩], [], .tuple #[.agg (svs 10 64).toArray, .int .i64 0]⟩]), (81, [⟨[.agg (svs 10 64).toArray], 5, [], [], [], .tuple #[.agg #[.int .i64 0, .int .i64 0], .int .i64 12]⟩])] trivial trivial trivial ⟨oe (headR_ctr hj hn8), oe hrd, oe ht, trivial⟩ 3 ([(0, .row 122 (.lst (ch 0 :: ch 1 :: svs 6 3)) true), (1, .orow 114 0 true), (2, .orow 2 1 true)]) [pt 0 0, vA 0 5, sv 5] []
end
end Go.Proofs.Ytpennfojidpmeaa
namespace Go.Sx
variable {P : Program}
theorem SaC.of {t : TypeId} {a v : Value} {A : HL} (h : arrayAtA P t a = some v) : SaC P t a A v := fun w _ E _ _ hx => @arrayAt_sound P E den0 t a _ v h hx w
theorem CpC.of_run {ats : List TypeId} {args : List Value} {A B : HL} {n : Int} {c c' : Nat} {H' : Heap} (hrun : Run (copyA P ats args) c (ofL A) (.int .i64 n) c' H') (hB : ∀ b o, lkL B b = some o → ∃ o', H'.get b = some o' ∧ Weaker o' o) : CpC P ats args A (.int .i64 n) B := by
  intro w F E args' ty at' hr hl hat
  obtain ⟨L, hrun⟩ := hrun
  subst hat
  obtain ⟨v', w', k1, k2, k3⟩ := @copy_sound P w F E (ofL A) w den0 at' ty args args' _ c c' H' L hrun hr hl
  refine ⟨v', w', _, k1, fun j x hj hb => ?_, HR0.pick k2 hB, ?_⟩
  · show (if (lkL B j).isSome = true then E j else none) = _
    rw [if_pos hb]; exact hj
  · cases k3
    exact @VR.int den0 _ _ _
theorem CpC.row {st xt e : TypeId} {size : Nat} (he : sliceElem P st = some e) (hs : sizeB P e = some size) {T0 T1 : TypeId} {l0 l1 : List Value} {k cp m cp1 o1 n : Nat} (hn : n = Nat.min m k) (h1 : 1 ≤ n) (hsz : 1 ≤ size) (hl0 : n * size ≤ l0.length) (hl1 : o1 + n * size ≤ l1.length) (hp0 : l0.all plainS = true) (hp1 : l1.all plainS = true) :
    CpC P [st, xt] [.slice (some ⟨0, 0, none⟩) k cp, .slice (some ⟨1, o1, none⟩) m cp1] [(0, .row T0 (.lst l0) false), (1, .row T1 (.lst l1) true)] (.int .i64 (n : Int)) [(0, .row T0 (.lst ((l1.drop o1).take (n * size) ++ l0.drop (n * size))) false)] := by
  subst hn
  have hlen : ((l1.drop o1).take (Nat.min m k * size)).length = Nat.min m k * size := by rw [List.length_take, List.length_drop]; omega
  have hpl : ((l1.drop o1).take (Nat.min m k * size)).all plainS = true := by
    rw [List.all_eq_true] at hp1 ⊢
    exact fun x hx => hp1 x (List.mem_of_mem_drop (List.mem_of_mem_take hx))
  refine CpC.of_run (c := 2) (c' := 2) (H' := (ofL [(0, .row T0 (.lst l0) false), (1, .row T1 (.lst l1) true)]).set 0 (.row T0 (.lst (l0.take 0 ++ ((l1.drop o1).take (Nat.min m k * size) ++ l0.drop (0 + ((l1.drop o1).take (Nat.min m k * size)).length)))) false)) ?_ (fun b o hb => ?_)
  · unfold copyA
    refine Run.bind (Run.opt he) (Run.bind (Run.opt hs) (Run.bind (Run.opt rfl) (Run.bind (Run.rdB (by rw [get_ofL]; rfl) hl1) ?_)))
    have hpos : 0 < Nat.min m k * size := Nat.mul_pos h1 hsz
    exact Run.bind (Run.wrB (by rw [get_ofL]; rfl) (app_all hpl) (by rw [hlen]; exact hpos) (by rw [hlen, Nat.zero_add]; exact hl0)) Run.pure
  · simp only [lkL] at hb
    cases h : Nat.beq 0 b with
    | false => rw [h] at hb; cases hb
    | true =>
      rw [h] at hb
      cases hb
      have := beq_iff.1 h; subst this
      refine ⟨_, Tr.get_set_self _ _ _, .inr ⟨_, _, _, _, _, rfl, rfl, fun h => h, fun q v hk => ?_, ?_⟩⟩
      · rw [List.take_zero, List.nil_append, Nat.zero_add, hlen]
        rw [get_lst]; exact hk
      · rw [List.all_append, hpl, Bool.true_and, List.all_eq_true]
        rw [List.all_eq_true] at hp0
        exact fun x hx => hp0 x (List.mem_of_mem_drop hx)
theorem CpC.none {st xt e : TypeId} {size : Nat} (he : sliceElem P st = some e) (hs : sizeB P e = some size) {T0 : TypeId} {l0 : List Value} {k cp z : Nat} (hp0 : l0.all plainS = true) (o1 : AObj) :
    CpC P [st, xt] [.slice (some ⟨0, 0, none⟩) k cp, .slice none 0 z] [(0, .row T0 (.lst l0) false), (1, o1)] (.int .i64 0) [(0, .row T0 (.lst l0) false)] := by
  refine CpC.of_run (c := 2) (c' := 2) (H' := ofL [(0, .row T0 (.lst l0) false), (1, o1)]) ?_ (fun b o hb => ?_)
  · unfold copyA
    refine Run.bind (Run.opt he) (Run.bind (Run.opt hs) (Run.bind (Run.opt rfl) ?_))
    have : Nat.min 0 k = 0 := Nat.zero_min k
    rw [this]
    exact Run.bind (Run.pure (a := [])) (Run.bind (a := ()) ⟨_, rfl⟩ Run.pure)
  · simp only [lkL] at hb
    cases h : Nat.beq 0 b with
    | false => rw [h] at hb; cases hb
    | true =>
      rw [h] at hb
      cases hb
      have := beq_iff.1 h; subst this
      exact ⟨_, by rw [get_ofL]; rfl, .inr ⟨_, _, _, _, _, rfl, rfl, fun h => h, fun q v hk => by rw [get_lst]; exact hk, hp0⟩⟩
end Go.Sx
namespace Go.Proofs.Ytpennfojidpmeaa
open Go.Sx
set_option maxRecDepth 20000
theorem u66 : Program.underlying Try.prog 66 = some (.slice 5) := by kernel_rfl
theorem u114 : Program.underlying Try.prog 114 = some (.array 64 5) := by kernel_rfl
theorem z5 : sizeB Try.prog 5 = some 1 := by kernel_rfl
theorem sa {d : Den} {t : TypeId} {e : Entry} {a res : Value} {A : HL} (h : SaC Try.prog t a A res) (h1 : entB e = true := by kernel_rfl) (h2 : @entOf d e = some ([a], A, res, A) := by kernel_rfl) : @AppOk d Try.prog [t, 1000004] e := SaOk.mk h h1 h2
theorem arrK {id off len cap : Nat} (h : 64 ≤ len) : arrayAtA Try.prog 114 (.slice (some ⟨id, off, none⟩) len cap) = some (.pointer (some ⟨id, off, none⟩)) := by
  unfold arrayAtA
  rw [u114]
  show (bif Nat.blt 0 64 && Nat.ble 64 len then _ else _) = _
  rw [Nat.ble_eq_true_of_le h]
  rfl
theorem asSliK {P : Program} {d : Den} {t el : TypeId} {size n id a i r : Nat} {fk : FloatKind} {q : Int} (hu : P.underlying t = some (.slice el)) (hs : sizeB P el = some size) (ho : d.o a = .slice (some ⟨id, 0, none⟩) n n) (hv : d.v i = .int .i64 q) (h1 : 0 ≤ q) (h2 : q < n) (h3 : n ≤ 1000000)
    (hr : d.o r = .slice (some ⟨id, q.toNat * size, none⟩) (n - q.toNat) (n - q.toNat)) : @AK.Ok d P (.sli t (.chan (some a)) (some (.float fk i)) none none) (.chan (some r)) := by
  refine asm_sli ?_
  show sliceA P t (d.o a) (some (d.v i)) none none = some (d.o r)
  rw [ho, hv, hr]
  unfold sliceA
  simp only [hu, hs, boundA]
  have hk : knownCap n = true := by unfold knownCap; exact blt_iff.2 (by unfold HALF; omega)
  have h4 : decide (0 ≤ q ∧ q ≤ (n : Int)) = true := decide_eq_true ⟨h1, by omega⟩
  simp only [hk, h4, cond_true, Option.isSome_none, Bool.false_and, Bool.false_or, cond_false]
  rw [if_neg (by omega)]
  simp [Addr.add]
  exact fun h => h.symm
theorem ptE {id : Nat} (i : Nat) : Value.pointer (some ⟨id, (((i : Int)) * (64) : Int).toNat * 1, none⟩) = .pointer (some ⟨id, 0 + i * 64, none⟩) := by
  have : ((i : Int) * 64).toNat = i * 64 := by omega
  rw [this, Nat.mul_one, Nat.zero_add]
theorem aL {d : Den} {P : Program} {k : AK} (r w : Value) (h : w = r) (h1 : @AKE d P k = some w := by kernel_rfl) (h2 : @cv d [] DEP r = some r := by kernel_rfl) : @AK.Ok d P k r := asP (h1.trans (congrArg some h)) h2
def AOf (S : List Sec) (E : List Value) : HL := [(0, .row 5 (.lst (enc secL S)) true), (1, .row 2 (.lst E) true)]
def ofD (n : Nat) (m : Int) : Dv := ⟨n, List.replicate n zeroS, fun i => if (i : Int) < m then 1 else 0, m, false, 0, false, 0⟩
def setS (d : Dv) (i : Nat) (x : Sec) : Dv := ⟨d.n, d.S.set i x, d.e, d.nd, d.cut, d.left, d.lost, d.done⟩
noncomputable abbrev dOf (n : Nat) (S : List Sec) (d : Dv) (i : Nat) : Den := denQ (devC d ++ [iv (n : Int), iv (i : Int)]) rfl [.v (.slice (some ⟨0, 0, none⟩) (64 * n) (64 * n)), .v (.slice (some ⟨3, 0, none⟩) d.n d.n)] rfl [enc secL S, enc secL d.S] (PL.cons (enc_plain secL_plain _) (PL.cons (enc_plain secL_plain _) no_rows))
noncomputable def xOf : Cfg := headC (hd 32 0) .normal [(0, ch 0), (6, pt 2 0), (39, sv 13), (40, sv 14)] 57 4 [(0, .orow 5 0 true), (2, .row 95 (.lst (ch 1 :: svs 0 13)) false), (3, .orow 114 1 false)]
def devH2 (d : Dv) : HL := [(2, .row 95 (.lst (.slice (some ⟨3, 0, none⟩) d.n d.n :: devC d)) false), (3, .row 114 (.lst (enc secL d.S)) false)]
abbrev GOf (E : List Value) (n : Nat) (S : List Sec) (d : Dv) (i : Nat) (B : HL) : Prop := GoodS (dOf n S d i) Try.prog 32 (AOf S E) (.tuple #[pt 2 0, iv 0]) B [] xOf
section
variable {E : List Value} {B : HL} {n i : Nat} {S : List Sec} {d : Dv} (hn : 1 ≤ n ∧ n ≤ 4096)
include hn
theorem of_s (hi : i < n) (hS : S.length = n) (hd : d.S.length = n) (hdn : d.n = n) (hg : GOf E n S (setS d i (gt S i)) (i + 1) B) : GOf E n S d i B := by
  · exact gS (denQ (devC d ++ [.int .i64 ((n : Int)), .int .i64 ((i : Int)), .int .i64 (((i : Int)) * (64))] ++ secL (gt S i) ++ [.int .i64 (((i : Int)) + (1))]) (by kernel_rfl) [.v (.slice (some ⟨0, 0, none⟩) (64 * n) (64 * n)), .v (.slice (some ⟨3, 0, none⟩) d.n d.n), .v (.slice (some ⟨0, ((((i : Int)) * (64)) : Int).toNat * 1, none⟩) ((64 * n) - ((((i : Int)) * (64)) : Int).toNat) ((64 * n) - ((((i : Int)) * (64)) : Int).toNat)), .v (.pointer (some ⟨0, ((((i : Int)) * (64)) : Int).toNat * 1, none⟩)), .v (.pointer (some ⟨3, 0 + (((i : Int)) : Int).toNat * 64, none⟩))] rfl [enc secL S, enc secL d.S, enc secL (d.S.set (((i : Int)) : Int).toNat (gt S i))] (PL.cons (enc_plain secL_plain _) (PL.cons (enc_plain secL_plain _) (PL.cons (enc_plain secL_plain _) no_rows)))) (dOf n S (setS d i (gt S i)) (i + 1)) ⟨[(.bin .lss 3 (sv 14) (sv 13), .bool true), (.bin .mul 3 (sv 14) (.int .i64 64), sv 15), (.sli 66 (.chan (some 0)) (some (sv 15)) none none, .chan (some 2)), (.ixa 92 (.chan (some 1)) (sv 14), .chan (some 4)), (.bin .add 3 (sv 14) (.int .i64 1), sv 80)], [⟨114, 3, 0, 0, vA 16 64⟩], [([114, 1000004], ⟨[.chan (some 2)], 4, [(0, 0)], [], [], .chan (some 3)⟩), ([114, 1000001], ⟨[.chan (some 4), .agg (svs 16 64).toArray], 4, [], [⟨3, 0, false, .orow 114 1 false, .orow 114 2 false⟩], [], .bool false⟩)]⟩ [] ⟨qT (((i : Int)) < ((n : Int))) (by omega), aq (.int .i64 (((i : Int)) * (64))) (.int .i64 (IntKind.i64.wrap (((i : Int)) * (64)))) (wVi64 (((i : Int)) * (64)) (by omega) (by omega)), asSliK u66 z5 rfl rfl (by omega) (by omega) (by omega) rfl, asIxa u92 z114 rfl rfl (by omega) (by omega) rfl rfl, aq (.int .i64 (((i : Int)) + (1))) (.int .i64 (IntKind.i64.wrap (((i : Int)) + (1)))) (wVi64 (((i : Int)) + (1)) (by omega) (by omega)), trivial⟩ ⟨ldE (i := i) secL_len a114 z114 (by omega) (ptE i) rfl (by kernel_rfl), trivial⟩ ⟨sa (A := [(0, .dead)]) (SaC.of (arrK (id := 0) (off := ((((i : Int)) * (64)) : Int).toNat * 1) (len := (64 * n) - ((((i : Int)) * (64)) : Int).toNat) (cap := (64 * n) - ((((i : Int)) * (64)) : Int).toNat) (by omega))), st (stE (S := d.S) (i := (((i : Int)) : Int).toNat) (T := 114) secL_len secL_plain (gt S i) [] z114 (by decide) (by first | omega | (simp only [List.length_set]; omega))), trivial⟩ trivial 12 [(0, 0), (2, 2), (3, 3)] hg
omit hn in
theorem of_end (hi : n ≤ i) : GOf E n S d i (devH2 d) := by
  · exact gF (denQ (devC d ++ [.int .i64 ((n : Int)), .int .i64 ((i : Int))]) (by kernel_rfl) [.v (.slice (some ⟨0, 0, none⟩) (64 * n) (64 * n)), .v (.slice (some ⟨3, 0, none⟩) d.n d.n)] rfl [enc secL S, enc secL d.S] (PL.cons (enc_plain secL_plain _) (PL.cons (enc_plain secL_plain _) no_rows))) ⟨[(.bin .lss 3 (sv 14) (sv 13), .bool false)], [], []⟩ [] ⟨qF (((i : Int)) < ((n : Int))) (by omega), trivial⟩ trivial trivial trivial 10 [(2, 2), (3, 3)]
theorem of_all (hS : S.length = n) : ∀ (k i : Nat) (d : Dv), i + k = n → d.n = n → d.S.length = n → (∀ t, t < i → gt d.S t = gt S t) → GOf E n S d i (devH2 ⟨d.n, S, d.e, d.nd, d.cut, d.left, d.lost, d.done⟩)
  | 0, i, d, hk, hdn, hd, h => by
    have e : d.S = S := by
      apply List.ext_getElem?
      intro t
      by_cases ht : t < n
      · have := h t (by omega)
        unfold gt at this
        rw [List.getElem?_eq_getElem (by omega), List.getElem?_eq_getElem (by omega)] at this ⊢
        exact congrArg some this
      · rw [List.getElem?_eq_none (by omega), List.getElem?_eq_none (by omega)]
    have e2 : (⟨d.n, S, d.e, d.nd, d.cut, d.left, d.lost, d.done⟩ : Dv) = d := by rw [← e]
    rw [e2]
    exact of_end (by omega)
  | k + 1, i, d, hk, hdn, hd, h => by
    refine of_s hn (by omega) hS hd hdn ?_
    refine of_all hS k (i + 1) (setS d i (gt S i)) (by omega) hdn (by show (d.S.set i (gt S i)).length = n; rw [List.length_set]; exact hd) (fun t ht => ?_)
    show gt (d.S.set i (gt S i)) t = gt S t
    rw [gt_set _ _ _ _ (by omega)]
    by_cases he : i = t
    · rw [if_pos he, he]
    · rw [if_neg he]; exact h t (by omega)
theorem dof_2 (hS : S.length = n) : Ctr Try.prog 32 [.slice (some ⟨0, 0, none⟩) (64 * n) (64 * n), .slice (some ⟨1, 0, none⟩) 2 INF] [(0, .row 5 (.lst (enc secL S)) true), (1, .row 2 (.lst (List.replicate 2 (iv 1))) true)] (.tuple #[pt 2 0, iv 0]) (devH2 ⟨n, S, (ofD n 2).e, 2, false, 0, false, 0⟩) := by
  have hnew := dnew_ctr (N := n) (m := 2) hn.1 hn.2 (by decide) (by decide)
  have hg := of_all (E := List.replicate 2 (iv 1)) hn hS n 0 (ofD n 2) (Nat.zero_add _) rfl List.length_replicate (fun t ht => absurd ht (by omega))
  · exact g0 (denQ ([.int .i64 (((64 * n) : Int)), .int .i64 ((n : Int))] ++ devC (dev0 n 2) ++ [.int .i64 (((dev0 n 2).n : Int))]) (by kernel_rfl) [.v (.slice (some ⟨0, 0, none⟩) (64 * n) (64 * n)), .v (.slice (some ⟨3, 0, none⟩) (dev0 n 2).n (dev0 n 2).n)] rfl [enc secL S, enc secL (dev0 n 2).S] (PL.cons (enc_plain secL_plain _) (PL.cons (enc_plain secL_plain _) no_rows))) (dOf n S (ofD n 2) 0) ⟨[(.len 66 (.chan (some 0)), sv 0), (.bin .rem 3 (sv 0) (.int .i64 64), .int .i64 0), (.bin .quo 3 (sv 0) (.int .i64 64), sv 1), (.len 92 (.chan (some 1)), sv 15)], [], []⟩ [(30, [⟨[sv 1, .int .i64 2], 2, [], [], [(0, .row 95 (.lst ([.chan (some 1)] ++ svs 2 13)) false), (1, .orow 114 1 false)], .tuple #[.pointer (some ⟨2, 0, none⟩), .int .i64 0]⟩])] ⟨asLen u66 rfl (by kernel_rfl), aL (.int .i64 0) (.int .i64 (Int.tmod (((64 * n) : Int)) 64)) (by rw [Int.tmod_eq_emod_of_nonneg (by omega)]; congr 1; omega), aq (.int .i64 (n : Int)) (.int .i64 (IntKind.i64.wrap (Int.tdiv (((64 * n) : Int)) 64))) ((quoVi64 (((64 * n) : Int)) 64 (by omega) (by omega) (by omega)).trans (congrArg (Value.int .i64) (by omega))), asLen u92 rfl (by kernel_rfl), trivial⟩ trivial trivial ⟨oe hnew, trivial⟩ 19 2 ([(0, .orow 5 0 true), (1, .row 2 (.lst (List.replicate 2 (iv 1))) true)]) [ch 0, .slice (some ⟨1, 0, none⟩) 2 INF] [(0, 0), (2, 2), (3, 3)] hg
theorem dof_3 (hS : S.length = n) : Ctr Try.prog 32 [.slice (some ⟨0, 0, none⟩) (64 * n) (64 * n), .slice (some ⟨1, 0, none⟩) 3 INF] [(0, .row 5 (.lst (enc secL S)) true), (1, .row 2 (.lst (List.replicate 3 (iv 1))) true)] (.tuple #[pt 2 0, iv 0]) (devH2 ⟨n, S, (ofD n 3).e, 3, false, 0, false, 0⟩) := by
  have hnew := dnew_ctr (N := n) (m := 3) hn.1 hn.2 (by decide) (by decide)
  have hg := of_all (E := List.replicate 3 (iv 1)) hn hS n 0 (ofD n 3) (Nat.zero_add _) rfl List.length_replicate (fun t ht => absurd ht (by omega))
  · exact g0 (denQ ([.int .i64 (((64 * n) : Int)), .int .i64 ((n : Int))] ++ devC (dev0 n 3) ++ [.int .i64 (((dev0 n 3).n : Int))]) (by kernel_rfl) [.v (.slice (some ⟨0, 0, none⟩) (64 * n) (64 * n)), .v (.slice (some ⟨3, 0, none⟩) (dev0 n 3).n (dev0 n 3).n)] rfl [enc secL S, enc secL (dev0 n 3).S] (PL.cons (enc_plain secL_plain _) (PL.cons (enc_plain secL_plain _) no_rows))) (dOf n S (ofD n 3) 0) ⟨[(.len 66 (.chan (some 0)), sv 0), (.bin .rem 3 (sv 0) (.int .i64 64), .int .i64 0), (.bin .quo 3 (sv 0) (.int .i64 64), sv 1), (.len 92 (.chan (some 1)), sv 15)], [], []⟩ [(30, [⟨[sv 1, .int .i64 3], 2, [], [], [(0, .row 95 (.lst ([.chan (some 1)] ++ svs 2 13)) false), (1, .orow 114 1 false)], .tuple #[.pointer (some ⟨2, 0, none⟩), .int .i64 0]⟩])] ⟨asLen u66 rfl (by kernel_rfl), aL (.int .i64 0) (.int .i64 (Int.tmod (((64 * n) : Int)) 64)) (by rw [Int.tmod_eq_emod_of_nonneg (by omega)]; congr 1; omega), aq (.int .i64 (n : Int)) (.int .i64 (IntKind.i64.wrap (Int.tdiv (((64 * n) : Int)) 64))) ((quoVi64 (((64 * n) : Int)) 64 (by omega) (by omega) (by omega)).trans (congrArg (Value.int .i64) (by omega))), asLen u92 rfl (by kernel_rfl), trivial⟩ trivial trivial ⟨oe hnew, trivial⟩ 19 2 ([(0, .orow 5 0 true), (1, .row 2 (.lst (List.replicate 3 (iv 1))) true)]) [ch 0, .slice (some ⟨1, 0, none⟩) 3 INF] [(0, 0), (2, 2), (3, 3)] hg
theorem dof_4 (hS : S.length = n) : Ctr Try.prog 32 [.slice (some ⟨0, 0, none⟩) (64 * n) (64 * n), .slice (some ⟨1, 0, none⟩) 4 INF] [(0, .row 5 (.lst (enc secL S)) true), (1, .row 2 (.lst (List.replicate 4 (iv 1))) true)] (.tuple #[pt 2 0, iv 0]) (devH2 ⟨n, S, (ofD n 4).e, 4, false, 0, false, 0⟩) := by
  have hnew := dnew_ctr (N := n) (m := 4) hn.1 hn.2 (by decide) (by decide)
  have hg := of_all (E := List.replicate 4 (iv 1)) hn hS n 0 (ofD n 4) (Nat.zero_add _) rfl List.length_replicate (fun t ht => absurd ht (by omega))
  · exact g0 (denQ ([.int .i64 (((64 * n) : Int)), .int .i64 ((n : Int))] ++ devC (dev0 n 4) ++ [.int .i64 (((dev0 n 4).n : Int))]) (by kernel_rfl) [.v (.slice (some ⟨0, 0, none⟩) (64 * n) (64 * n)), .v (.slice (some ⟨3, 0, none⟩) (dev0 n 4).n (dev0 n 4).n)] rfl [enc secL S, enc secL (dev0 n 4).S] (PL.cons (enc_plain secL_plain _) (PL.cons (enc_plain secL_plain _) no_rows))) (dOf n S (ofD n 4) 0) ⟨[(.len 66 (.chan (some 0)), sv 0), (.bin .rem 3 (sv 0) (.int .i64 64), .int .i64 0), (.bin .quo 3 (sv 0) (.int .i64 64), sv 1), (.len 92 (.chan (some 1)), sv 15)], [], []⟩ [(30, [⟨[sv 1, .int .i64 4], 2, [], [], [(0, .row 95 (.lst ([.chan (some 1)] ++ svs 2 13)) false), (1, .orow 114 1 false)], .tuple #[.pointer (some ⟨2, 0, none⟩), .int .i64 0]⟩])] ⟨asLen u66 rfl (by kernel_rfl), aL (.int .i64 0) (.int .i64 (Int.tmod (((64 * n) : Int)) 64)) (by rw [Int.tmod_eq_emod_of_nonneg (by omega)]; congr 1; omega), aq (.int .i64 (n : Int)) (.int .i64 (IntKind.i64.wrap (Int.tdiv (((64 * n) : Int)) 64))) ((quoVi64 (((64 * n) : Int)) 64 (by omega) (by omega) (by omega)).trans (congrArg (Value.int .i64) (by omega))), asLen u92 rfl (by kernel_rfl), trivial⟩ trivial trivial ⟨oe hnew, trivial⟩ 19 2 ([(0, .orow 5 0 true), (1, .row 2 (.lst (List.replicate 4 (iv 1))) true)]) [ch 0, .slice (some ⟨1, 0, none⟩) 4 INF] [(0, 0), (2, 2), (3, 3)] hg
theorem dof_5 (hS : S.length = n) : Ctr Try.prog 32 [.slice (some ⟨0, 0, none⟩) (64 * n) (64 * n), .slice (some ⟨1, 0, none⟩) 5 INF] [(0, .row 5 (.lst (enc secL S)) true), (1, .row 2 (.lst (List.replicate 5 (iv 1))) true)] (.tuple #[pt 2 0, iv 0]) (devH2 ⟨n, S, (ofD n 5).e, 5, false, 0, false, 0⟩) := by
  have hnew := dnew_ctr (N := n) (m := 5) hn.1 hn.2 (by decide) (by decide)
  have hg := of_all (E := List.replicate 5 (iv 1)) hn hS n 0 (ofD n 5) (Nat.zero_add _) rfl List.length_replicate (fun t ht => absurd ht (by omega))
  · exact g0 (denQ ([.int .i64 (((64 * n) : Int)), .int .i64 ((n : Int))] ++ devC (dev0 n 5) ++ [.int .i64 (((dev0 n 5).n : Int))]) (by kernel_rfl) [.v (.slice (some ⟨0, 0, none⟩) (64 * n) (64 * n)), .v (.slice (some ⟨3, 0, none⟩) (dev0 n 5).n (dev0 n 5).n)] rfl [enc secL S, enc secL (dev0 n 5).S] (PL.cons (enc_plain secL_plain _) (PL.cons (enc_plain secL_plain _) no_rows))) (dOf n S (ofD n 5) 0) ⟨[(.len 66 (.chan (some 0)), sv 0), (.bin .rem 3 (sv 0) (.int .i64 64), .int .i64 0), (.bin .quo 3 (sv 0) (.int .i64 64), sv 1), (.len 92 (.chan (some 1)), sv 15)], [], []⟩ [(30, [⟨[sv 1, .int .i64 5], 2, [], [], [(0, .row 95 (.lst ([.chan (some 1)] ++ svs 2 13)) false), (1, .orow 114 1 false)], .tuple #[.pointer (some ⟨2, 0, none⟩), .int .i64 0]⟩])] ⟨asLen u66 rfl (by kernel_rfl), aL (.int .i64 0) (.int .i64 (Int.tmod (((64 * n) : Int)) 64)) (by rw [Int.tmod_eq_emod_of_nonneg (by omega)]; congr 1; omega), aq (.int .i64 (n : Int)) (.int .i64 (IntKind.i64.wrap (Int.tdiv (((64 * n) : Int)) 64))) ((quoVi64 (((64 * n) : Int)) 64 (by omega) (by omega) (by omega)).trans (congrArg (Value.int .i64) (by omega))), asLen u92 rfl (by kernel_rfl), trivial⟩ trivial trivial ⟨oe hnew, trivial⟩ 19 2 ([(0, .orow 5 0 true), (1, .row 2 (.lst (List.replicate 5 (iv 1))) true)]) [ch 0, .slice (some ⟨1, 0, none⟩) 5 INF] [(0, 0), (2, 2), (3, 3)] hg
theorem dof_6 (hS : S.length = n) : Ctr Try.prog 32 [.slice (some ⟨0, 0, none⟩) (64 * n) (64 * n), .slice (some ⟨1, 0, none⟩) 6 INF] [(0, .row 5 (.lst (enc secL S)) true), (1, .row 2 (.lst (List.replicate 6 (iv 1))) true)] (.tuple #[pt 2 0, iv 0]) (devH2 ⟨n, S, (ofD n 6).e, 6, false, 0, false, 0⟩) := by
  have hnew := dnew_ctr (N := n) (m := 6) hn.1 hn.2 (by decide) (by decide)
  have hg := of_all (E := List.replicate 6 (iv 1)) hn hS n 0 (ofD n 6) (Nat.zero_add _) rfl List.length_replicate (fun t ht => absurd ht (by omega))
  · exact g0 (denQ ([.int .i64 (((64 * n) : Int)), .int .i64 ((n : Int))] ++ devC (dev0 n 6) ++ [.int .i64 (((dev0 n 6).n : Int))]) (by kernel_rfl) [.v (.slice (some ⟨0, 0, none⟩) (64 * n) (64 * n)), .v (.slice (some ⟨3, 0, none⟩) (dev0 n 6).n (dev0 n 6).n)] rfl [enc secL S, enc secL (dev0 n 6).S] (PL.cons (enc_plain secL_plain _) (PL.cons (enc_plain secL_plain _) no_rows))) (dOf n S (ofD n 6) 0) ⟨[(.len 66 (.chan (some 0)), sv 0), (.bin .rem 3 (sv 0) (.int .i64 64), .int .i64 0), (.bin .quo 3 (sv 0) (.int .i64 64), sv 1), (.len 92 (.chan (some 1)), sv 15)], [], []⟩ [(30, [⟨[sv 1, .int .i64 6], 2, [], [], [(0, .row 95 (.lst ([.chan (some 1)] ++ svs 2 13)) false), (1, .orow 114 1 false)], .tuple #[.pointer (some ⟨2, 0, none⟩), .int .i64 0]⟩])] ⟨asLen u66 rfl (by kernel_rfl), aL (.int .i64 0) (.int .i64 (Int.tmod (((64 * n) : Int)) 64)) (by rw [Int.tmod_eq_emod_of_nonneg (by omega)]; congr 1; omega), aq (.int .i64 (n : Int)) (.int .i64 (IntKind.i64.wrap (Int.tdiv (((64 * n) : Int)) 64))) ((quoVi64 (((64 * n) : Int)) 64 (by omega) (by omega) (by omega)).trans (congrArg (Value.int .i64) (by omega))), asLen u92 rfl (by kernel_rfl), trivial⟩ trivial trivial ⟨oe hnew, trivial⟩ 19 2 ([(0, .orow 5 0 true), (1, .row 2 (.lst (List.replicate 6 (iv 1))) true)]) [ch 0, .slice (some ⟨1, 0, none⟩) 6 INF] [(0, 0), (2, 2), (3, 3)] hg
theorem dof_7 (hS : S.length = n) : Ctr Try.prog 32 [.slice (some ⟨0, 0, none⟩) (64 * n) (64 * n), .slice (some ⟨1, 0, none⟩) 7 INF] [(0, .row 5 (.lst (enc secL S)) true), (1, .row 2 (.lst (List.replicate 7 (iv 1))) true)] (.tuple #[pt 2 0, iv 0]) (devH2 ⟨n, S, (ofD n 7).e, 7, false, 0, false, 0⟩) := by
  have hnew := dnew_ctr (N := n) (m := 7) hn.1 hn.2 (by decide) (by decide)
  have hg := of_all (E := List.replicate 7 (iv 1)) hn hS n 0 (ofD n 7) (Nat.zero_add _) rfl List.length_replicate (fun t ht => absurd ht (by omega))
  · exact g0 (denQ ([.int .i64 (((64 * n) : Int)), .int .i64 ((n : Int))] ++ devC (dev0 n 7) ++ [.int .i64 (((dev0 n 7).n : Int))]) (by kernel_rfl) [.v (.slice (some ⟨0, 0, none⟩) (64 * n) (64 * n)), .v (.slice (some ⟨3, 0, none⟩) (dev0 n 7).n (dev0 n 7).n)] rfl [enc secL S, enc secL (dev0 n 7).S] (PL.cons (enc_plain secL_plain _) (PL.cons (enc_plain secL_plain _) no_rows))) (dOf n S (ofD n 7) 0) ⟨[(.len 66 (.chan (some 0)), sv 0), (.bin .rem 3 (sv 0) (.int .i64 64), .int .i64 0), (.bin .quo 3 (sv 0) (.int .i64 64), sv 1), (.len 92 (.chan (some 1)), sv 15)], [], []⟩ [(30, [⟨[sv 1, .int .i64 7], 2, [], [], [(0, .row 95 (.lst ([.chan (some 1)] ++ svs 2 13)) false), (1, .orow 114 1 false)], .tuple #[.pointer (some ⟨2, 0, none⟩), .int .i64 0]⟩])] ⟨asLen u66 rfl (by kernel_rfl), aL (.int .i64 0) (.int .i64 (Int.tmod (((64 * n) : Int)) 64)) (by rw [Int.tmod_eq_emod_of_nonneg (by omega)]; congr 1; omega), aq (.int .i64 (n : Int)) (.int .i64 (IntKind.i64.wrap (Int.tdiv (((64 * n) : Int)) 64))) ((quoVi64 (((64 * n) : Int)) 64 (by omega) (by omega) (by omega)).trans (congrArg (Value.int .i64) (by omega))), asLen u92 rfl (by kernel_rfl), trivial⟩ trivial trivial ⟨oe hnew, trivial⟩ 19 2 ([(0, .orow 5 0 true), (1, .row 2 (.lst (List.replicate 7 (iv 1))) true)]) [ch 0, .slice (some ⟨1, 0, none⟩) 7 INF] [(0, 0), (2, 2), (3, 3)] hg
theorem dof_8 (hS : S.length = n) : Ctr Try.prog 32 [.slice (some ⟨0, 0, none⟩) (64 * n) (64 * n), .slice (some ⟨1, 0, none⟩) 8 INF] [(0, .row 5 (.lst (enc secL S)) true), (1, .row 2 (.lst (List.replicate 8 (iv 1))) true)] (.tuple #[pt 2 0, iv 0]) (devH2 ⟨n, S, (ofD n 8).e, 8, false, 0, false, 0⟩) := by
  have hnew := dnew_ctr (N := n) (m := 8) hn.1 hn.2 (by decide) (by decide)
  have hg := of_all (E := List.replicate 8 (iv 1)) hn hS n 0 (ofD n 8) (Nat.zero_add _) rfl List.length_replicate (fun t ht => absurd ht (by omega))
  · exact g0 (denQ ([.int .i64 (((64 * n) : Int)), .int .i64 ((n : Int))] ++ devC (dev0 n 8) ++ [.int .i64 (((dev0 n 8).n : Int))]) (by kernel_rfl) [.v (.slice (some ⟨0, 0, none⟩) (64 * n) (64 * n)), .v (.slice (some ⟨3, 0, none⟩) (dev0 n 8).n (dev0 n 8).n)] rfl [enc secL S, enc secL (dev0 n 8).S] (PL.cons (enc_plain secL_plain _) (PL.cons (enc_plain secL_plain _) no_rows))) (dOf n S (ofD n 8) 0) ⟨[(.len 66 (.chan (some 0)), sv 0), (.bin .rem 3 (sv 0) (.int .i64 64), .int .i64 0), (.bin .quo 3 (sv 0) (.int .i64 64), sv 1), (.len 92 (.chan (some 1)), sv 15)], [], []⟩ [(30, [⟨[sv 1, .int .i64 8], 2, [], [], [(0, .row 95 (.lst ([.chan (some 1)] ++ svs 2 13)) false), (1, .orow 114 1 false)], .tuple #[.pointer (some ⟨2, 0, none⟩), .int .i64 0]⟩])] ⟨asLen u66 rfl (by kernel_rfl), aL (.int .i64 0) (.int .i64 (Int.tmod (((64 * n) : Int)) 64)) (by rw [Int.tmod_eq_emod_of_nonneg (by omega)]; congr 1; omega), aq (.int .i64 (n : Int)) (.int .i64 (IntKind.i64.wrap (Int.tdiv (((64 * n) : Int)) 64))) ((quoVi64 (((64 * n) : Int)) 64 (by omega) (by omega) (by omega)).trans (congrArg (Value.int .i64) (by omega))), asLen u92 rfl (by kernel_rfl), trivial⟩ trivial trivial ⟨oe hnew, trivial⟩ 19 2 ([(0, .orow 5 0 true), (1, .row 2 (.lst (List.replicate 8 (iv 1))) true)]) [ch 0, .slice (some ⟨1, 0, none⟩) 8 INF] [(0, 0), (2, 2), (3, 3)] hg
end
end Go.Proofs.Ytpennfojidpmeaa
namespace Go.Proofs.Ytpennfojidpmeaa
open Go.Sx
set_option maxRecDepth 20000
theorem secL_eq (b : Sec) : secL b = (List.range 64).map fun i => .int .u8 (b i) := by rfl
theorem secL_get (b : Sec) {i : Nat} (h : i < 64) : (secL b)[i]? = some (.int .u8 (b i)) := by
  rw [secL_eq, List.getElem?_map, List.getElem?_range h]; rfl
theorem enc_cell {S : List Sec} {i : Nat} (h : i < 64 * S.length) : (enc secL S)[i]? = some (.int .u8 ((gt S (i / 64)) (i % 64))) := by
  have h1 := enc_at (f := secL) secL_len (l := S) (i := i / 64) (by omega)
  have h2 := secL_get (gt S (i / 64)) (i := i % 64) (by omega)
  rw [← h1, List.getElem?_take, if_pos (by omega), List.getElem?_drop, show i / 64 * 64 + i % 64 = i by omega] at h2
  exact h2
theorem set_plain {R : List Value} {k : Nat} {x : Int} (h : R.all plainS = true) : (R.set k (.int .u8 x)).all plainS = true := by
  rw [List.all_eq_true] at h ⊢
  intro y hy
  rcases List.mem_or_eq_of_mem_set hy with hy | rfl
  · exact h y hy
  · rfl
theorem asIxArrO {P : Program} {d : Den} {t el : TypeId} {n len id base a i r off : Nat} {fk : FloatKind} {k : IntKind} {q : Int} (hu : P.underlying t = some (.array len el)) (hn : sizeB P el = some n) (ho : d.o a = .pointer (some ⟨id, base, none⟩)) (hv : d.v i = .int k q) (h1 : 0 ≤ q) (h2 : q < len)
    (hr : d.o r = .pointer (some ⟨id, off, none⟩)) (hoff : off = base + q.toNat * n := by rfl) : @AK.Ok d P (.ixa t (.chan (some a)) (.float fk i)) (.chan (some r)) := by
  refine asm_ixa ?_
  show indexAddrA P t (d.o a) (d.v i) = some (d.o r)
  rw [ho, hv, hr, hoff]
  unfold indexAddrA
  simp only [hu, hn]
  rw [show inB q len = true from inB_iff.2 ⟨h1, h2⟩, add_eq]
  rfl
noncomputable abbrev dRf (n : Nat) (S : List Sec) (E : List Int) (R : List Value) (hR : R.all plainS = true) (i : Nat) : Den := denQ [iv (i : Int)] rfl [.v (.slice (some ⟨0, 0, none⟩) (64 * n) (64 * n)), .v (.slice (some ⟨3, 0, none⟩) n n), .v (.slice (some ⟨4, 0, none⟩) E.length E.length)] rfl [enc secL S, R, enc intL E] (PL.cons (enc_plain secL_plain _) (PL.cons hR (PL.cons (enc_plain intL_plain _) no_rows)))
noncomputable def xRf : Cfg := headC (hd 33 1) .normal [(0, ch 0), (5, pt 2 0), (7, sv 0)] 75 5 [(0, .orow 5 0 true), (2, .row 122 (.lst [ch 1, ch 2, iv (-1), .bool false, iv 0]) false), (3, .orow 114 1 false), (4, .orow 2 2 false)]
def rdH2 (n : Nat) (R : List Value) (E : List Int) : HL := [(2, .row 122 (.lst [.slice (some ⟨3, 0, none⟩) n n, .slice (some ⟨4, 0, none⟩) E.length E.length, iv (-1), .bool false, iv 0]) false), (3, .row 114 (.lst R) false), (4, .row 2 (.lst (enc intL E)) false)]
abbrev GRf (F : List Value) (n : Nat) (S : List Sec) (E : List Int) (R : List Value) (hR : R.all plainS = true) (i : Nat) (B : HL) : Prop := GoodS (dRf n S E R hR i) Try.prog 33 (AOf S F) (pt 2 0) B [] xRf
section
variable {F : List Value} {B : HL} {n i : Nat} {S : List Sec} {E : List Int} {R : List Value} (hn : 1 ≤ n ∧ n ≤ 4096)
include hn
theorem rof_s (hR : R.all plainS = true) (hR2 : R.length = 64 * n) (hi : i < 64 * n) (hc : (enc secL S)[0 + (((i : Int)) : Int).toNat * 1]? = some (.int .u8 ((gt S (i / 64)) (i % 64)))) (hg : GRf F n S E (R.set (0 + (((i : Int) / 64) : Int).toNat * 64 + (((i : Int) % 64) : Int).toNat * 1) (.int .u8 ((gt S (i / 64)) (i % 64)))) (set_plain hR) (i + 1) B) : GRf F n S E R hR i B := by
  · exact gS (denQ [.int .i64 ((i : Int)), .int .i64 (((64 * n) : Int)), .int .i64 ((i : Int) / 64), .int .i64 ((i : Int) % 64), .int .u8 ((gt S (i / 64)) (i % 64)), .int .i64 (((i : Int)) + (1))] rfl [.v (.slice (some ⟨0, 0, none⟩) (64 * n) (64 * n)), .v (.slice (some ⟨3, 0, none⟩) n n), .v (.slice (some ⟨4, 0, none⟩) E.length E.length), .v (.pointer (some ⟨0, 0 + (((i : Int)) : Int).toNat * 1, none⟩)), .v (.pointer (some ⟨3, 0 + (((i : Int) / 64) : Int).toNat * 64, none⟩)), .v (.pointer (some ⟨3, 0 + (((i : Int) / 64) : Int).toNat * 64 + (((i : Int) % 64) : Int).toNat * 1, none⟩))] rfl [enc secL S, R, enc intL E, (R.set (0 + (((i : Int) / 64) : Int).toNat * 64 + (((i : Int) % 64) : Int).toNat * 1) (.int .u8 ((gt S (i / 64)) (i % 64))))] (PL.cons (enc_plain secL_plain _) (PL.cons hR (PL.cons (enc_plain intL_plain _) (PL.cons (set_plain hR) no_rows))))) (dRf n S E _ (set_plain hR) (i + 1)) ⟨[(.len 66 (.chan (some 0)), sv 1), (.bin .lss 3 (sv 0) (sv 1), .bool true), (.bin .quo 3 (sv 0) (.int .i64 64), sv 2), (.bin .rem 3 (sv 0) (.int .i64 64), sv 3), (.ixa 66 (.chan (some 0)) (sv 0), .chan (some 3)), (.ixa 92 (.chan (some 1)) (sv 2), .chan (some 4)), (.ixa 114 (.chan (some 4)) (sv 3), .chan (some 5)), (.bin .add 3 (sv 0) (.int .i64 1), sv 5)], [⟨5, 3, 0, 0, sv 4⟩], [([5, 1000001], ⟨[.chan (some 5), sv 4], 5, [], [⟨3, 0, false, .orow 114 1 false, .orow 114 3 false⟩], [], .bool false⟩)]⟩ [] ⟨asLen u66 rfl (by kernel_rfl), qT (((i : Int)) < (((64 * n) : Int))) (by omega), aq (.int .i64 ((i : Int) / 64)) (.int .i64 (IntKind.i64.wrap (Int.tdiv ((i : Int)) 64))) (quoVi64 ((i : Int)) 64 (by omega) (by omega) (by omega)), aq (.int .i64 ((i : Int) % 64)) (.int .i64 (Int.tmod ((i : Int)) 64)) (remV ((i : Int)) 64 (by omega)), asIxa u66 z5 rfl rfl (by omega) (by omega) rfl rfl, asIxa u92 z114 rfl rfl (by omega) (by omega) rfl rfl, asIxArrO u114 z5 rfl rfl (by omega) (by omega) rfl, aq (.int .i64 (((i : Int)) + (1))) (.int .i64 (IntKind.i64.wrap (((i : Int)) + (1)))) (wVi64 (((i : Int)) + (1)) (by omega) (by omega)), trivial⟩ ⟨ld_one a5 rfl hc (by kernel_rfl), trivial⟩ ⟨st (StC.cell (T := 114) (l := R) (k := 0 + (((i : Int) / 64) : Int).toNat * 64 + (((i : Int) % 64) : Int).toNat * 1) (v := .int .u8 ((gt S (i / 64)) (i % 64))) [] z5 (by rw [hR2]; omega) rfl rfl), trivial⟩ trivial 10 [(0, 0), (2, 2), (3, 3), (4, 4)] hg
omit hn in
theorem rof_end (hR : R.all plainS = true) (hi : 64 * n ≤ i) : GRf F n S E R hR i (rdH2 n R E) := by
  · exact gF (denQ [.int .i64 ((i : Int)), .int .i64 (((64 * n) : Int))] rfl [.v (.slice (some ⟨0, 0, none⟩) (64 * n) (64 * n)), .v (.slice (some ⟨3, 0, none⟩) n n), .v (.slice (some ⟨4, 0, none⟩) E.length E.length)] rfl [enc secL S, R, enc intL E] (PL.cons (enc_plain secL_plain _) (PL.cons hR (PL.cons (enc_plain intL_plain _) no_rows)))) ⟨[(.len 66 (.chan (some 0)), sv 1), (.bin .lss 3 (sv 0) (sv 1), .bool false)], [], []⟩ [] ⟨asLen u66 rfl (by kernel_rfl), qF (((i : Int)) < (((64 * n) : Int))) (by omega), trivial⟩ trivial trivial trivial 10 [(2, 2), (3, 3), (4, 4)]
theorem rof_all (hS : S.length = n) : ∀ (k i : Nat) (R : List Value) (hR : R.all plainS = true), i + k = 64 * n → R.length = 64 * n → (∀ t, t < i → R[t]? = (enc secL S)[t]?) → GRf F n S E R hR i (rdH2 n (enc secL S) E)
  | 0, i, R, hR, hk, hl, h => by
    have e : R = enc secL S := by
      apply List.ext_getElem?
      intro t
      by_cases ht : t < 64 * n
      · exact h t (by omega)
      · rw [List.getElem?_eq_none (by omega), List.getElem?_eq_none (by rw [enc_len secL_len]; omega)]
    subst e
    exact rof_end hR (by omega)
  | k + 1, i, R, hR, hk, hl, h => by
    have e0 : 0 + (((i : Int)) : Int).toNat * 1 = i := by omega
    have e1 : 0 + (((i : Int) / 64) : Int).toNat * 64 + (((i : Int) % 64) : Int).toNat * 1 = i := by omega
    have hcell := enc_cell (S := S) (i := i) (by omega)
    refine rof_s hn hR hl (by omega) (by rw [e0]; exact hcell) ?_
    refine rof_all hS k (i + 1) _ _ (by omega) (by rw [List.length_set]; exact hl) (fun t ht => ?_)
    rw [e1, List.getElem?_set]
    by_cases he : i = t
    · subst he
      rw [if_pos rfl, if_pos (by omega), hcell]
    · rw [if_neg he]; exact h t (by omega)
theorem rof_2 (hS : S.length = n) : Ctr Try.prog 33 [.slice (some ⟨0, 0, none⟩) (64 * n) (64 * n), .slice (some ⟨1, 0, none⟩) 2 INF] [(0, .row 5 (.lst (enc secL S)) true), (1, .row 2 (.lst (List.replicate 2 (iv 1))) true)] (pt 2 0) (rdH2 n (enc secL S) (List.replicate 2 1)) := by
  have hg := rof_all (F := List.replicate 2 (iv 1)) (E := List.replicate 2 1) hn hS (64 * n) 0 (enc secL (List.replicate n zeroS)) (enc_plain secL_plain _) (Nat.zero_add _) (by rw [enc_len secL_len, List.length_replicate]; omega) (fun t ht => absurd ht (by omega))
  · exact g0 (denQ [.int .i64 (((64 * n) : Int)), .int .i64 ((n : Int))] rfl [.v (.slice (some ⟨0, 0, none⟩) (64 * n) (64 * n)), .v (.slice (some ⟨2, 0, none⟩) n n)] rfl [enc secL S, enc secL (List.replicate n zeroS)] (PL.cons (enc_plain secL_plain _) (PL.cons (enc_plain secL_plain _) no_rows))) (dRf n S (List.replicate 2 1) (enc secL (List.replicate n zeroS)) (enc_plain secL_plain _) 0) ⟨[(.len 66 (.chan (some 0)), sv 0), (.bin .rem 3 (sv 0) (.int .i64 64), .int .i64 0), (.bin .quo 3 (sv 0) (.int .i64 64), sv 1), (.bin .lss 3 (sv 1) (.int .i64 1), .bool false), (.bin .gtr 3 (sv 1) (.int .i64 4096), .bool false)], [], [([92, 1000002], ⟨[sv 1, sv 1], 2, [], [], [(0, .orow 114 1 false)], .chan (some 1)⟩)]⟩ [] ⟨asLen u66 rfl (by kernel_rfl), aL (.int .i64 0) (.int .i64 (Int.tmod (((64 * n) : Int)) 64)) (by rw [Int.tmod_eq_emod_of_nonneg (by omega)]; congr 1; omega), aq (.int .i64 (n : Int)) (.int .i64 (IntKind.i64.wrap (Int.tdiv (((64 * n) : Int)) 64))) ((quoVi64 (((64 * n) : Int)) 64 (by omega) (by omega) (by omega)).trans (congrArg (Value.int .i64) (by omega))), qF (((n : Int)) < (1)) (by omega), qF (((n : Int)) > (4096)) (by omega), trivial⟩ trivial ⟨mk' (mkSec (n := n) (by omega) (by omega)), trivial⟩ trivial 53 2 ([(0, .orow 5 0 true), (1, .row 2 (.lst (List.replicate 2 (iv 1))) true)]) [ch 0, .slice (some ⟨1, 0, none⟩) 2 INF] [(0, 0), (4, 2), (2, 3), (3, 4)] hg
theorem rof_3 (hS : S.length = n) : Ctr Try.prog 33 [.slice (some ⟨0, 0, none⟩) (64 * n) (64 * n), .slice (some ⟨1, 0, none⟩) 3 INF] [(0, .row 5 (.lst (enc secL S)) true), (1, .row 2 (.lst (List.replicate 3 (iv 1))) true)] (pt 2 0) (rdH2 n (enc secL S) (List.replicate 3 1)) := by
  have hg := rof_all (F := List.replicate 3 (iv 1)) (E := List.replicate 3 1) hn hS (64 * n) 0 (enc secL (List.replicate n zeroS)) (enc_plain secL_plain _) (Nat.zero_add _) (by rw [enc_len secL_len, List.length_replicate]; omega) (fun t ht => absurd ht (by omega))
  · exact g0 (denQ [.int .i64 (((64 * n) : Int)), .int .i64 ((n : Int))] rfl [.v (.slice (some ⟨0, 0, none⟩) (64 * n) (64 * n)), .v (.slice (some ⟨2, 0, none⟩) n n)] rfl [enc secL S, enc secL (List.replicate n zeroS)] (PL.cons (enc_plain secL_plain _) (PL.cons (enc_plain secL_plain _) no_rows))) (dRf n S (List.replicate 3 1) (enc secL (List.replicate n zeroS)) (enc_plain secL_plain _) 0) ⟨[(.len 66 (.chan (some 0)), sv 0), (.bin .rem 3 (sv 0) (.int .i64 64), .int .i64 0), (.bin .quo 3 (sv 0) (.int .i64 64), sv 1), (.bin .lss 3 (sv 1) (.int .i64 1), .bool false), (.bin .gtr 3 (sv 1) (.int .i64 4096), .bool false)], [], [([92, 1000002], ⟨[sv 1, sv 1], 2, [], [], [(0, .orow 114 1 false)], .chan (some 1)⟩)]⟩ [] ⟨asLen u66 rfl (by kernel_rfl), aL (.int .i64 0) (.int .i64 (Int.tmod (((64 * n) : Int)) 64)) (by rw [Int.tmod_eq_emod_of_nonneg (by omega)]; congr 1; omega), aq (.int .i64 (n : Int)) (.int .i64 (IntKind.i64.wrap (Int.tdiv (((64 * n) : Int)) 64))) ((quoVi64 (((64 * n) : Int)) 64 (by omega) (by omega) (by omega)).trans (congrArg (Value.int .i64) (by omega))), qF (((n : Int)) < (1)) (by omega), qF (((n : Int)) > (4096)) (by omega), trivial⟩ trivial ⟨mk' (mkSec (n := n) (by omega) (by omega)), trivial⟩ trivial 67 2 ([(0, .orow 5 0 true), (1, .row 2 (.lst (List.replicate 3 (iv 1))) true)]) [ch 0, .slice (some ⟨1, 0, none⟩) 3 INF] [(0, 0), (4, 2), (2, 3), (3, 4)] hg
theorem rof_4 (hS : S.length = n) : Ctr Try.prog 33 [.slice (some ⟨0, 0, none⟩) (64 * n) (64 * n), .slice (some ⟨1, 0, none⟩) 4 INF] [(0, .row 5 (.lst (enc secL S)) true), (1, .row 2 (.lst (List.replicate 4 (iv 1))) true)] (pt 2 0) (rdH2 n (enc secL S) (List.replicate 4 1)) := by
  have hg := rof_all (F := List.replicate 4 (iv 1)) (E := List.replicate 4 1) hn hS (64 * n) 0 (enc secL (List.replicate n zeroS)) (enc_plain secL_plain _) (Nat.zero_add _) (by rw [enc_len secL_len, List.length_replicate]; omega) (fun t ht => absurd ht (by omega))
  · exact g0 (denQ [.int .i64 (((64 * n) : Int)), .int .i64 ((n : Int))] rfl [.v (.slice (some ⟨0, 0, none⟩) (64 * n) (64 * n)), .v (.slice (some ⟨2, 0, none⟩) n n)] rfl [enc secL S, enc secL (List.replicate n zeroS)] (PL.cons (enc_plain secL_plain _) (PL.cons (enc_plain secL_plain _) no_rows))) (dRf n S (List.replicate 4 1) (enc secL (List.replicate n zeroS)) (enc_plain secL_plain _) 0) ⟨[(.len 66 (.chan (some 0)), sv 0), (.bin .rem 3 (sv 0) (.int .i64 64), .int .i64 0), (.bin .quo 3 (sv 0) (.int .i64 64), sv 1), (.bin .lss 3 (sv 1) (.int .i64 1), .bool false), (.bin .gtr 3 (sv 1) (.int .i64 4096), .bool false)], [], [([92, 1000002], ⟨[sv 1, sv 1], 2, [], [], [(0, .orow 114 1 false)], .chan (some 1)⟩)]⟩ [] ⟨asLen u66 rfl (by kernel_rfl), aL (.int .i64 0) (.int .i64 (Int.tmod (((64 * n) : Int)) 64)) (by rw [Int.tmod_eq_emod_of_nonneg (by omega)]; congr 1; omega), aq (.int .i64 (n : Int)) (.int .i64 (IntKind.i64.wrap (Int.tdiv (((64 * n) : Int)) 64))) ((quoVi64 (((64 * n) : Int)) 64 (by omega) (by omega) (by omega)).trans (congrArg (Value.int .i64) (by omega))), qF (((n : Int)) < (1)) (by omega), qF (((n : Int)) > (4096)) (by omega), trivial⟩ trivial ⟨mk' (mkSec (n := n) (by omega) (by omega)), trivial⟩ trivial 81 2 ([(0, .orow 5 0 true), (1, .row 2 (.lst (List.replicate 4 (iv 1))) true)]) [ch 0, .slice (some ⟨1, 0, none⟩) 4 INF] [(0, 0), (4, 2), (2, 3), (3, 4)] hg
theorem rof_5 (hS : S.length = n) : Ctr Try.prog 33 [.slice (some ⟨0, 0, none⟩) (64 * n) (64 * n), .slice (some ⟨1, 0, none⟩) 5 INF] [(0, .row 5 (.lst (enc secL S)) true), (1, .row 2 (.lst (List.replicate 5 (iv 1))) true)] (pt 2 0) (rdH2 n (enc secL S) (List.replicate 5 1)) := by
  have hg := rof_all (F := List.replicate 5 (iv 1)) (E := List.replicate 5 1) hn hS (64 * n) 0 (enc secL (List.replicate n zeroS)) (enc_plain secL_plain _) (Nat.zero_add _) (by rw [enc_len secL_len, List.length_replicate]; omega) (fun t ht => absurd ht (by omega))
  · exact g0 (denQ [.int .i64 (((64 * n) : Int)), .int .i64 ((n : Int))] rfl [.v (.slice (some ⟨0, 0, none⟩) (64 * n) (64 * n)), .v (.slice (some ⟨2, 0, none⟩) n n)] rfl [enc secL S, enc secL (List.replicate n zeroS)] (PL.cons (enc_plain secL_plain _) (PL.cons (enc_plain secL_plain _) no_rows))) (dRf n S (List.replicate 5 1) (enc secL (List.replicate n zeroS)) (enc_plain secL_plain _) 0) ⟨[(.len 66 (.chan (some 0)), sv 0), (.bin .rem 3 (sv 0) (.int .i64 64), .int .i64 0), (.bin .quo 3 (sv 0) (.int .i64 64), sv 1), (.bin .lss 3 (sv 1) (.int .i64 1), .bool false), (.bin .gtr 3 (sv 1) (.int .i64 4096), .bool false)], [], [([92, 1000002], ⟨[sv 1, sv 1], 2, [], [], [(0, .orow 114 1 false)], .chan (some 1)⟩)]⟩ [] ⟨asLen u66 rfl (by kernel_rfl), aL (.int .i64 0) (.int .i64 (Int.tmod (((64 * n) : Int)) 64)) (by rw [Int.tmod_eq_emod_of_nonneg (by omega)]; congr 1; omega), aq (.int .i64 (n : Int)) (.int .i64 (IntKind.i64.wrap (Int.tdiv (((64 * n) : Int)) 64))) ((quoVi64 (((64 * n) : Int)) 64 (by omega) (by omega) (by omega)).trans (congrArg (Value.int .i64) (by omega))), qF (((n : Int)) < (1)) (by omega), qF (((n : Int)) > (4096)) (by omega), trivial⟩ trivial ⟨mk' (mkSec (n := n) (by omega) (by omega)), trivial⟩ trivial 95 2 ([(0, .orow 5 0 true), (1, .row 2 (.lst (List.replicate 5 (iv 1))) true)]) [ch 0, .slice (some ⟨1, 0, none⟩) 5 INF] [(0, 0), (4, 2), (2, 3), (3, 4)] hg
theorem rof_6 (hS : S.length = n) : Ctr Try.prog 33 [.slice (some ⟨0, 0, none⟩) (64 * n) (64 * n), .slice (some ⟨1, 0, none⟩) 6 INF] [(0, .row 5 (.lst (enc secL S)) true), (1, .row 2 (.lst (List.replicate 6 (iv 1))) true)] (pt 2 0) (rdH2 n (enc secL S) (List.replicate 6 1)) := by
  have hg := rof_all (F := List.replicate 6 (iv 1)) (E := List.replicate 6 1) hn hS (64 * n) 0 (enc secL (List.replicate n zeroS)) (enc_plain secL_plain _) (Nat.zero_add _) (by rw [enc_len secL_len, List.length_replicate]; omega) (fun t ht => absurd ht (by omega))
  · exact g0 (denQ [.int .i64 (((64 * n) : Int)), .int .i64 ((n : Int))] rfl [.v (.slice (some ⟨0, 0, none⟩) (64 * n) (64 * n)), .v (.slice (some ⟨2, 0, none⟩) n n)] rfl [enc secL S, enc secL (List.replicate n zeroS)] (PL.cons (enc_plain secL_plain _) (PL.cons (enc_plain secL_plain _) no_rows))) (dRf n S (List.replicate 6 1) (enc secL (List.replicate n zeroS)) (enc_plain secL_plain _) 0) ⟨[(.len 66 (.chan (some 0)), sv 0), (.bin .rem 3 (sv 0) (.int .i64 64), .int .i64 0), (.bin .quo 3 (sv 0) (.int .i64 64), sv 1), (.bin .lss 3 (sv 1) (.int .i64 1), .bool false), (.bin .gtr 3 (sv 1) (.int .i64 4096), .bool false)], [], [([92, 1000002], ⟨[sv 1, sv 1], 2, [], [], [(0, .orow 114 1 false)], .chan (some 1)⟩)]⟩ [] ⟨asLen u66 rfl (by kernel_rfl), aL (.int .i64 0) (.int .i64 (Int.tmod (((64 * n) : Int)) 64)) (by rw [Int.tmod_eq_emod_of_nonneg (by omega)]; congr 1; omega), aq (.int .i64 (n : Int)) (.int .i64 (IntKind.i64.wrap (Int.tdiv (((64 * n) : Int)) 64))) ((quoVi64 (((64 * n) : Int)) 64 (by omega) (by omega) (by omega)).trans (congrArg (Value.int .i64) (by omega))), qF (((n : Int)) < (1)) (by omega), qF (((n : Int)) > (4096)) (by omega), trivial⟩ trivial ⟨mk' (mkSec (n := n) (by omega) (by omega)), trivial⟩ trivial 109 2 ([(0, .orow 5 0 true), (1, .row 2 (.lst (List.replicate 6 (iv 1))) true)]) [ch 0, .slice (some ⟨1, 0, none⟩) 6 INF] [(0, 0), (4, 2), (2, 3), (3, 4)] hg
theorem rof_7 (hS : S.length = n) : Ctr Try.prog 33 [.slice (some ⟨0, 0, none⟩) (64 * n) (64 * n), .slice (some ⟨1, 0, none⟩) 7 INF] [(0, .row 5 (.lst (enc secL S)) true), (1, .row 2 (.lst (List.replicate 7 (iv 1))) true)] (pt 2 0) (rdH2 n (enc secL S) (List.replicate 7 1)) := by
  have hg := rof_all (F := List.replicate 7 (iv 1)) (E := List.replicate 7 1) hn hS (64 * n) 0 (enc secL (List.replicate n zeroS)) (enc_plain secL_plain _) (Nat.zero_add _) (by rw [enc_len secL_len, List.length_replicate]; omega) (fun t ht => absurd ht (by omega))
  · exact g0 (denQ [.int .i64 (((64 * n) : Int)), .int .i64 ((n : Int))] rfl [.v (.slice (some ⟨0, 0, none⟩) (64 * n) (64 * n)), .v (.slice (some ⟨2, 0, none⟩) n n)] rfl [enc secL S, enc secL (List.replicate n zeroS)] (PL.cons (enc_plain secL_plain _) (PL.cons (enc_plain secL_plain _) no_rows))) (dRf n S (List.replicate 7 1) (enc secL (List.replicate n zeroS)) (enc_plain secL_plain _) 0) ⟨[(.len 66 (.chan (some 0)), sv 0), (.bin .rem 3 (sv 0) (.int .i64 64), .int .i64 0), (.bin .quo 3 (sv 0) (.int .i64 64), sv 1), (.bin .lss 3 (sv 1) (.int .i64 1), .bool false), (.bin .gtr 3 (sv 1) (.int .i64 4096), .bool false)], [], [([92, 1000002], ⟨[sv 1, sv 1], 2, [], [], [(0, .orow 114 1 false)], .chan (some 1)⟩)]⟩ [] ⟨asLen u66 rfl (by kernel_rfl), aL (.int .i64 0) (.int .i64 (Int.tmod (((64 * n) : Int)) 64)) (by rw [Int.tmod_eq_emod_of_nonneg (by omega)]; congr 1; omega), aq (.int .i64 (n : Int)) (.int .i64 (IntKind.i64.wrap (Int.tdiv (((64 * n) : Int)) 64))) ((quoVi64 (((64 * n) : Int)) 64 (by omega) (by omega) (by omega)).trans (congrArg (Value.int .i64) (by omega))), qF (((n : Int)) < (1)) (by omega), qF (((n : Int)) > (4096)) (by omega), trivial⟩ trivial ⟨mk' (mkSec (n := n) (by omega) (by omega)), trivial⟩ trivial 123 2 ([(0, .orow 5 0 true), (1, .row 2 (.lst (List.replicate 7 (iv 1))) true)]) [ch 0, .slice (some ⟨1, 0, none⟩) 7 INF] [(0, 0), (4, 2), (2, 3), (3, 4)] hg
theorem rof_8 (hS : S.length = n) : Ctr Try.prog 33 [.slice (some ⟨0, 0, none⟩) (64 * n) (64 * n), .slice (some ⟨1, 0, none⟩) 8 INF] [(0, .row 5 (.lst (enc secL S)) true), (1, .row 2 (.lst (List.replicate 8 (iv 1))) true)] (pt 2 0) (rdH2 n (enc secL S) (List.replicate 8 1)) := by
  have hg := rof_all (F := List.replicate 8 (iv 1)) (E := List.replicate 8 1) hn hS (64 * n) 0 (enc secL (List.replicate n zeroS)) (enc_plain secL_plain _) (Nat.zero_add _) (by rw [enc_len secL_len, List.length_replicate]; omega) (fun t ht => absurd ht (by omega))
  · exact g0 (denQ [.int .i64 (((64 * n) : Int)), .int .i64 ((n : Int))] rfl [.v (.slice (some ⟨0, 0, none⟩) (64 * n) (64 * n)), .v (.slice (some ⟨2, 0, none⟩) n n)] rfl [enc secL S, enc secL (List.replicate n zeroS)] (PL.cons (enc_plain secL_plain _) (PL.cons (enc_plain secL_plain _) no_rows))) (dRf n S (List.replicate 8 1) (enc secL (List.replicate n zeroS)) (enc_plain secL_plain _) 0) ⟨[(.len 66 (.chan (some 0)), sv 0), (.bin .rem 3 (sv 0) (.int .i64 64), .int .i64 0), (.bin .quo 3 (sv 0) (.int .i64 64), sv 1), (.bin .lss 3 (sv 1) (.int .i64 1), .bool false), (.bin .gtr 3 (sv 1) (.int .i64 4096), .bool false)], [], [([92, 1000002], ⟨[sv 1, sv 1], 2, [], [], [(0, .orow 114 1 false)], .chan (some 1)⟩)]⟩ [] ⟨asLen u66 rfl (by kernel_rfl), aL (.int .i64 0) (.int .i64 (Int.tmod (((64 * n) : Int)) 64)) (by rw [Int.tmod_eq_emod_of_nonneg (by omega)]; congr 1; omega), aq (.int .i64 (n : Int)) (.int .i64 (IntKind.i64.wrap (Int.tdiv (((64 * n) : Int)) 64))) ((quoVi64 (((64 * n) : Int)) 64 (by omega) (by omega) (by omega)).trans (congrArg (Value.int .i64) (by omega))), qF (((n : Int)) < (1)) (by omega), qF (((n : Int)) > (4096)) (by omega), trivial⟩ trivial ⟨mk' (mkSec (n := n) (by omega) (by omega)), trivial⟩ trivial 137 2 ([(0, .orow 5 0 true), (1, .row 2 (.lst (List.replicate 8 (iv 1))) true)]) [ch 0, .slice (some ⟨1, 0, none⟩) 8 INF] [(0, 0), (4, 2), (2, 3), (3, 4)] hg
end
end Go.Proofs.Ytpennfojidpmeaa
namespace Go.Proofs.Ytpennfojidpmeaa
open Go.Sx
set_option maxRecDepth 20000
def byL (f : Nat → Int) (n : Nat) : List Value := (List.range n).map fun t => .int .u8 (f t)
theorem byL_plain (f : Nat → Int) (n : Nat) : (byL f n).all plainS = true := by
  rw [List.all_eq_true]
  intro x hx
  obtain ⟨t, _, rfl⟩ := List.mem_map.1 hx
  rfl
theorem byL_len (f : Nat → Int) (n : Nat) : (byL f n).length = n := by simp [byL]
theorem byL_get (f : Nat → Int) {n k : Nat} (h : k < n) : (byL f n)[k]? = some (.int .u8 (f k)) := by
  unfold byL
  rw [List.getElem?_map, List.getElem?_range h]; rfl
theorem repL_by : ∀ n : Nat, repL [Value.int .u8 0] n = byL (fun _ => 0) n
  | 0 => rfl
  | n + 1 => by
    rw [repL, repL_by n]
    unfold byL
    rw [List.range_succ_eq_map, List.map_cons, List.map_map]
    rfl
def secsOf (n : Nat) (f : Nat → Int) : List Sec := (List.range n).map fun i t => f (64 * i + t)
theorem secsOf_len (n : Nat) (f : Nat → Int) : (secsOf n f).length = n := by simp [secsOf]
theorem secsOf_get (f : Nat → Int) {n i : Nat} (h : i < n) : gt (secsOf n f) i = fun t => f (64 * i + t) := by
  unfold gt secsOf
  rw [List.getElem?_map, List.getElem?_range h]; rfl
theorem enc_secs (n : Nat) (f : Nat → Int) : enc secL (secsOf n f) = byL f (64 * n) := by
  apply List.ext_getElem?
  intro t
  by_cases ht : t < 64 * n
  · rw [enc_cell (by rw [secsOf_len]; exact ht), byL_get f ht, secsOf_get f (by omega)]
    simp only
    rw [show 64 * (t / 64) + t % 64 = t by omega]
  · rw [List.getElem?_eq_none (by rw [enc_len secL_len, secsOf_len]; omega), List.getElem?_eq_none (by rw [byL_len]; omega)]
theorem secsOf_byte {n : Nat} {f : Nat → Int} (h : ∀ i, 0 ≤ f i ∧ f i < 256) : ∀ s ∈ secsOf n f, Byte s := fun s hs => by
  obtain ⟨i, _, rfl⟩ := List.mem_map.1 hs
  exact fun t => h _
theorem zero5 : zeroB Try.prog 5 = some (.int .u8 0) := by kernel_rfl
theorem bytes5 : bytesB Try.prog 5 = some 1 := by kernel_rfl
theorem sl66 : sliceElem Try.prog 66 = some 5 := by kernel_rfl
theorem mkB {n : Nat} (h1 : 1 ≤ n) (h2 : n ≤ 1000000) : MkC Try.prog 66 (iv (n : Int)) (iv (n : Int)) [] (.slice (some ⟨0, 0, none⟩) n n) [(0, .row 5 (.lst (byL (fun _ => 0) n)) false)] := by
  refine MkC.of_run (c := 0) (c' := 1) (H' := (ofL []).set 0 (.row 5 (mkCells (repL [Value.int .u8 0] n)) false)) ?_ (fun b o hb => ?_) rfl
  · show Run (makeSliceA Try.prog 66 (.int .i64 (.ofNat n)) (.int .i64 (.ofNat n))) _ _ _ _ _
    have hall : (repL [Value.int .u8 0] n).all oneB = true := by rw [repL_by]; exact app_all (byL_plain _ _)
    unfold makeSliceA
    refine Run.bind (Run.opt sl66) (Run.bind (Run.opt z5) (Run.bind (Run.opt bytes5) (Run.bind (Run.guard ?_) (Run.bind (Run.opt zero5) (Run.bind (Run.guard rfl) (Run.bind (a := Value.pointer (some ⟨0, 0, none⟩)) (f := fun p => match p with
      | .pointer a => M.pure (Value.slice a n n)
      | _ => M.bad 427) ?_ Run.pure))))))
    · simp only [Bool.and_eq_true, Nat.blt_eq, Nat.ble_eq]
      unfold HALF
      omega
    · unfold newRowA
      exact Run.bind (Run.guard hall) (Run.bind (Run.newA rfl) Run.pure)
  · simp only [lkL] at hb
    cases h : Nat.beq 0 b with
    | false => rw [h] at hb; cases hb
    | true =>
      rw [h] at hb
      cases hb
      have := beq_iff.1 h; subst this
      refine ⟨_, Tr.get_set_self _ _ _, .inr ⟨_, _, _, _, _, rfl, rfl, fun h => h, fun k v hk => by rw [mk_get, repL_by]; exact hk, byL_plain _ _⟩⟩
def cpF (f : Nat → Int) (m : Nat) : Nat → Int := fun i => if i < m then f i else 0
theorem copy_bytes {f : Nat → Int} {m n k : Nat} (hk : k = Nat.min m n) : ((byL f m).drop 0).take (k * 1) ++ (byL (fun _ => 0) n).drop (k * 1) = byL (cpF f m) n := by
  have hkm : k ≤ m ∧ k ≤ n := by rw [hk]; exact ⟨Nat.min_le_left _ _, Nat.min_le_right _ _⟩
  have hl : (((byL f m).drop 0).take (k * 1)).length = k := by rw [List.length_take, List.length_drop, byL_len]; omega
  apply List.ext_getElem?
  intro t
  by_cases ht : t < k
  · rw [List.getElem?_append_left (by omega), List.getElem?_take, if_pos (by omega), List.getElem?_drop, Nat.zero_add, byL_get f (by omega), byL_get _ (by omega)]
    unfold cpF
    rw [if_pos (by omega)]
  · rw [List.getElem?_append_right (by omega), hl, List.getElem?_drop, show k * 1 + (t - k) = t by omega]
    by_cases hn : t < n
    · rw [byL_get _ hn, byL_get _ hn]
      unfold cpF
      have : m ≤ t := by
        rcases Nat.le_total m n with h | h
        · rw [hk, show Nat.min m n = m from Nat.min_eq_left h] at ht; omega
        · rw [hk, show Nat.min m n = n from Nat.min_eq_right h] at ht; omega
      rw [if_neg (by omega)]
    · rw [List.getElem?_eq_none (by rw [byL_len]; omega), List.getElem?_eq_none (by rw [byL_len]; omega)]
end Go.Proofs.Ytpennfojidpmeaa
namespace Go.Proofs.Ytpennfojidpmeaa
open Go.Sx
set_option maxRecDepth 20000
theorem copyB {T : TypeId} {f : Nat → Int} {m n cb : Nat} (hn : 1 ≤ n) : CpC Try.prog [66, 66] [.slice (some ⟨0, 0, none⟩) (64 * n) (64 * n), mSl 1 m cb 2] [(0, .row 5 (.lst (byL (fun _ => 0) (64 * n))) false), (1, rowOr T (byL f m) true)] (iv ((Nat.min m (64 * n) : Nat) : Int)) [(0, .row 5 (.lst (enc secL (secsOf n (cpF f m)))) false)] := by
  rw [enc_secs]
  by_cases h0 : m = 0
  · subst h0
    have h := CpC.none (P := Try.prog) (st := 66) (xt := 66) sl66 z5 (T0 := 5) (l0 := byL (fun _ => 0) (64 * n)) (k := 64 * n) (cp := 64 * n) (z := 2) (byL_plain _ _) (rowOr T (byL f 0) true)
    have e : cpF f 0 = fun _ => 0 := by funext i; unfold cpF; rw [if_neg (by omega)]
    rw [e, show Nat.min 0 (64 * n) = 0 from Nat.zero_min _]
    exact h
  · rw [mSl_pos (by omega), rowOr_pos (by intro hh; have := byL_len f m; rw [hh] at this; exact h0 this.symm)]
    have hk : 1 ≤ Nat.min m (64 * n) := by rcases Nat.le_total m (64 * n) with h | h <;> (first | (rw [show Nat.min m (64 * n) = m from Nat.min_eq_left h]; omega) | (rw [show Nat.min m (64 * n) = 64 * n from Nat.min_eq_right h]; omega))
    have hkm : Nat.min m (64 * n) ≤ m ∧ Nat.min m (64 * n) ≤ 64 * n := ⟨Nat.min_le_left _ _, Nat.min_le_right _ _⟩
    have h := CpC.row (P := Try.prog) (st := 66) (xt := 66) sl66 z5 (T0 := 5) (T1 := T) (l0 := byL (fun _ => 0) (64 * n)) (l1 := byL f m) (k := 64 * n) (cp := 64 * n) (m := m) (cp1 := cb) (o1 := 0) (n := Nat.min m (64 * n)) rfl hk (by decide) (by rw [byL_len]; omega) (by rw [byL_len]; omega) (byL_plain _ _) (byL_plain _ _)
    rw [copy_bytes rfl] at h
    exact h
end Go.Proofs.Ytpennfojidpmeaa
namespace Go.Proofs.Ytpennfojidpmeaa
open Go.Sx
set_option maxRecDepth 20000
theorem etI : ElemT Try.prog 68 68 2 1 8 (iv 0) := ⟨by kernel_rfl, by kernel_rfl, by kernel_rfl, by kernel_rfl, by kernel_rfl⟩
theorem appI (L : List Int) (x : Int) (cp : Nat) (hl : L.length < 1000000) {z : Nat} (hz : Nat.ble z 1 = true := by rfl) : AppC Try.prog [68, 68] [mSl 0 L.length INF z, .slice (some ⟨1, 0, none⟩) 1 cp] [(0, rowOr 2 (enc intL L) false), (1, .row 2 (.lst (intL x)) true)] (mSl 2 (L ++ [x]).length INF z) [(0, .dead), (2, rowOr 2 (enc intL (L ++ [x])) false)] := by
  cases L with
  | nil =>
    have h := app_nilG (P := Try.prog) (q := z) hz etI (rowOr 2 (enc intL []) false) (l := intL x) (m := 1) (off := 0) (cp := cp) (T := 2) (by decide) (by rw [intL_len]; decide) (intL_plain x) (by decide) (by unfold HALF; decide)
    exact h
  | cons y r =>
    have h := AppC.inf (P := Try.prog) etI (bl := enc intL (y :: r)) (l := intL x) (n := (y :: r).length) (m := 1) (off := 0) (cp := cp) (T := 2) (enc_len intL_len _) (enc_plain intL_plain _) (by decide) (by rw [intL_len]; decide) (intL_plain x) (by omega) (by unfold HALF; omega)
    have e : enc intL (y :: r) ++ ((intL x).drop 0).take (1 * 1) = enc intL ((y :: r) ++ [x]) := by rw [enc_app]; rfl
    rw [e] at h
    have e2 : (y :: r).length + 1 = ((y :: r) ++ [x]).length := by simp
    rw [e2] at h
    exact h
theorem cp {d : Den} {s1 s2 : TypeId} {e : Entry} {args : List Value} {A : HL} {res : Value} {B : HL} (h : CpC Try.prog [s1, s2] args A res B) (h1 : entB e = true := by kernel_rfl) (h2 : @entOf d e = some (args, A, res, B) := by kernel_rfl) : @AppOk d Try.prog [s1, s2, 1000003] e := CpOk.mk h h1 h2
def dA (n : Nat) (S : List Sec) (N : Int) : Dv := ⟨n, S, (ofD n N).e, N, false, 0, false, 0⟩
theorem dofE {n : Nat} (hn : 1 ≤ n ∧ n ≤ 4096) {S : List Sec} (hS : S.length = n) {E : List Int} {N : Int} (hN : 2 ≤ N ∧ N ≤ 8) (hE : E = List.replicate N.toNat 1) : Ctr Try.prog 32 [.slice (some ⟨0, 0, none⟩) (64 * n) (64 * n), mSl 1 E.length INF 0] [(0, .row 5 (.lst (enc secL S)) true), (1, rowOr 2 (enc intL E) true)] (.tuple #[pt 2 0, iv 0]) (devH2 (dA n S N)) := by
  subst hE
  have h : N = 2 ∨ N = 3 ∨ N = 4 ∨ N = 5 ∨ N = 6 ∨ N = 7 ∨ N = 8 := by omega
  rcases h with rfl | rfl | rfl | rfl | rfl | rfl | rfl
  · exact dof_2 hn hS
  · exact dof_3 hn hS
  · exact dof_4 hn hS
  · exact dof_5 hn hS
  · exact dof_6 hn hS
  · exact dof_7 hn hS
  · exact dof_8 hn hS
theorem rofE {n : Nat} (hn : 1 ≤ n ∧ n ≤ 4096) {S : List Sec} (hS : S.length = n) {E : List Int} {N : Int} (hN : 2 ≤ N ∧ N ≤ 8) (hE : E = List.replicate N.toNat 1) : Ctr Try.prog 33 [.slice (some ⟨0, 0, none⟩) (64 * n) (64 * n), mSl 1 E.length INF 0] [(0, .row 5 (.lst (enc secL S)) true), (1, rowOr 2 (enc intL E) true)] (pt 2 0) (rdH2 n (enc secL S) E) := by
  subst hE
  have h : N = 2 ∨ N = 3 ∨ N = 4 ∨ N = 5 ∨ N = 6 ∨ N = 7 ∨ N = 8 := by omega
  rcases h with rfl | rfl | rfl | rfl | rfl | rfl | rfl
  · exact rof_2 hn hS
  · exact rof_3 hn hS
  · exact rof_4 hn hS
  · exact rof_5 hn hS
  · exact rof_6 hn hS
  · exact rof_7 hn hS
  · exact rof_8 hn hS
noncomputable abbrev dE (j : Jb) (nd : Int) (n : Nat) (S : List Sec) (E : List Int) (i : Nat) : Den := denQ (jobL j ++ [iv nd] ++ [iv (i : Int)]) rfl [.v (.slice (some ⟨2, 0, none⟩) (64 * n) (64 * n)), om 3 E.length INF] rfl [enc secL S, enc intL E] (PL.cons (enc_plain secL_plain _) (PL.cons (enc_plain intL_plain _) no_rows))
def fE (x : Value) : FV := [(1, sv 5), (3, pt 1 0), (8, ch 0), (9, x), (10, sv 6)]
def aE : HL := [(1, .row 24 (.lst (svs 0 5)) false), (2, .orow 5 0 false)]
noncomputable def xE : Cfg := headC (hd 7 0) .normal (fE (ch 1)) 134 4 (aE ++ [(3, .mrow 2 1 false)])
noncomputable def xE0 : Cfg := headC (hd 7 0) .normal (fE (.slice none 0 0)) 134 4 aE
noncomputable abbrev dC (X : List Rec) (t : Nat) : Den := denQ [iv (t : Int)] rfl [om 2 X.length INF, om 3 X.length INF] rfl [enc recL X, enc recL X] (PL.cons (enc_plain recL_plain _) (PL.cons (enc_plain recL_plain _) no_rows))
def fC (x y : Value) : FV := [(15, x), (17, y), (21, sv 0)]
noncomputable def xC : Cfg := headC (hd 7 1) .normal (fC (ch 0) (ch 1)) 134 4 [(2, .mrow 47 0 false), (3, .mrow 47 1 false)]
noncomputable def xC0 : Cfg := headC (hd 7 1) .normal (fC (.slice none 0 0) (.slice none 0 0)) 134 4 []
def AB (f : Nat → Int) (m : Nat) : HL := [(0, rowOr 5 (byL f m) true)]
abbrev CA (j : Jb) (nd : Int) (f : Nat → Int) (m cb : Nat) : Prop := Ctr Try.prog 7 [jobV j, iv nd, mSl 0 m cb 2] (AB f m) (.bool true) []
abbrev GE (A : HL) (j : Jb) (nd : Int) (n : Nat) (S : List Sec) (E : List Int) (i : Nat) : Prop := GoodS (dE j nd n S E i) Try.prog 7 A (.bool true) [] [] xE
abbrev GC (A : HL) (X : List Rec) (t : Nat) : Prop := GoodS (dC X t) Try.prog 7 A (.bool true) [] [] xC
theorem GE.nil {A : HL} {j : Jb} {nd : Int} {n : Nat} {S : List Sec} {i : Nat} (hg : GE A j nd n S [] i) : GoodS (dE j nd n S [] i) Try.prog 7 A (.bool true) [] [] xE0 :=
  goodS_slots (fv := fE (ch 1)) (fv' := fE (.slice none 0 0)) (by simp only [slotsOK, fE]; exact ⟨trivial, .inl trivial, trivial, .inl trivial, trivial, .inl trivial, trivial, .inr ⟨1, rfl, rfl⟩, trivial, .inl trivial, trivial⟩) (goodS_ghost (A2 := aE) hg rfl rfl)
theorem GC.nil {A : HL} {t : Nat} (hg : GC A [] t) : GoodS (dC [] t) Try.prog 7 A (.bool true) [] [] xC0 :=
  goodS_slots (fv := fC (ch 0) (ch 1)) (fv' := fC (.slice none 0 0) (.slice none 0 0)) (by simp only [slotsOK, fC]; exact ⟨trivial, .inr ⟨0, rfl, rfl⟩, trivial, .inr ⟨1, rfl, rfl⟩, trivial, .inl trivial, trivial⟩) (goodS_ghost (A2 := []) (goodS_ghost (A2 := [(2, .mrow 47 0 false)]) hg rfl rfl) rfl rfl)
section
variable {A : HL} {j : Jb} {nd : Int} {f : Nat → Int} {m cb n i : Nat} {S : List Sec} {E : List Int}
theorem a_nojob (hmj : Ctr Try.prog 23 [jobV j] [] (.bool false) []) : CA j nd f m cb := by
  exact pth (denQ (jobL j ++ [.int .i64 (nd)]) (by kernel_rfl) [oa 0 m cb] rfl [byL f m] (PL.cons (byL_plain _ _) no_rows)) ⟨[], [], []⟩ [(23, [⟨[.agg #[sv 0, sv 1, sv 2, sv 3, sv 4]], 2, [], [], [], .bool false⟩]), (12, [⟨[], 2, [], [], [], .bool true⟩])] trivial trivial trivial ⟨oe hmj, oe known_ctr, trivial⟩ 1 ([(0, .mrow 5 0 true)]) [vA 0 5, sv 5, ch 0] []
theorem a_guard (hmj : Ctr Try.prog 23 [jobV j] [] (.bool true) []) (hg : ¬ (0 ≤ nd ∧ nd < j.nodes)) : CA j nd f m cb := by
  · by_cases h0 : ((nd) : Int) < (0)
    · skip
      exact pth (denQ (jobL j ++ [.int .i64 (nd)]) (by kernel_rfl) [oa 0 m cb] rfl [byL f m] (PL.cons (byL_plain _ _) no_rows)) ⟨[(.bin .lss 3 (sv 5) (.int .i64 0), .bool true)], [], []⟩ [(23, [⟨[.agg #[sv 0, sv 1, sv 2, sv 3, sv 4]], 2, [], [], [], .bool true⟩]), (12, [⟨[], 2, [], [], [], .bool true⟩])] ⟨qT ((nd) < (0)) (by omega), trivial⟩ trivial trivial ⟨oe hmj, oe known_ctr, trivial⟩ 1 ([(0, .mrow 5 0 true)]) [vA 0 5, sv 5, ch 0] []
    · by_cases h1 : ((nd) : Int) ≥ (j.nodes)
      · skip
        exact pth (denQ (jobL j ++ [.int .i64 (nd)]) (by kernel_rfl) [oa 0 m cb] rfl [byL f m] (PL.cons (byL_plain _ _) no_rows)) ⟨[(.bin .lss 3 (sv 5) (.int .i64 0), .bool false), (.bin .geq 3 (sv 5) (sv 0), .bool true)], [], []⟩ [(23, [⟨[.agg #[sv 0, sv 1, sv 2, sv 3, sv 4]], 2, [], [], [], .bool true⟩]), (12, [⟨[], 2, [], [], [], .bool true⟩])] ⟨qF ((nd) < (0)) (by omega), qT ((nd) ≥ (j.nodes)) (by omega), trivial⟩ trivial trivial ⟨oe hmj, oe known_ctr, trivial⟩ 1 ([(0, .mrow 5 0 true)]) [vA 0 5, sv 5, ch 0] []
      · exact absurd ⟨by omega, by omega⟩ hg
theorem a_start (hj : MayJ j) (h1 : 0 ≤ nd ∧ nd < j.nodes) (hs : sects j = n) (hn : 1 ≤ n ∧ n ≤ 4096) (hg : GE (AB f m) j nd n (secsOf n (cpF f m)) [] 0) : CA j nd f m cb := by
  have hg := hg.nil
  · exact g0 (denQ (jobL j ++ [.int .i64 (nd), .int .i64 (sects j), .int .i64 (((64 * n : Nat) : Int)), .int .i64 (((Nat.min m (64 * n) : Nat) : Int))]) (by kernel_rfl) [oa 0 m cb, .v (.slice (some ⟨2, 0, none⟩) (64 * n) (64 * n))] rfl [byL f m, byL (fun _ => 0) (64 * n), enc secL (secsOf n (cpF f m))] (PL.cons (byL_plain _ _) (PL.cons (byL_plain _ _) (PL.cons (enc_plain secL_plain _) no_rows)))) (dE j nd n (secsOf n (cpF f m)) [] 0) ⟨[(.bin .lss 3 (sv 5) (.int .i64 0), .bool false), (.bin .geq 3 (sv 5) (sv 0), .bool false), (.bin .mul 3 (sv 6) (.int .i64 64), sv 7)], [], [([66, 1000002], ⟨[sv 7, sv 7], 2, [], [], [(0, .orow 5 1 false)], .chan (some 1)⟩), ([66, 66, 1000003], ⟨[.chan (some 1), .chan (some 0)], 3, [], [⟨2, 0, false, .orow 5 1 false, .orow 5 2 false⟩, ⟨0, 1, true, .mrow 5 0 true, .mrow 5 0 true⟩], [], sv 8⟩)]⟩ [(23, [⟨[.agg #[sv 0, sv 1, sv 2, sv 3, sv 4]], 2, [], [], [], .bool true⟩]), (31, [⟨[.agg #[sv 0, sv 1, sv 2, sv 3, sv 4]], 2, [], [], [], sv 6⟩])] ⟨qF ((nd) < (0)) (by omega), qF ((nd) ≥ (j.nodes)) (by omega), aq (.int .i64 ((64 * n : Nat) : Int)) (.int .i64 (IntKind.i64.wrap ((sects j) * 64))) (wE ((sects j) * 64) ((64 * n : Nat) : Int) (by omega) (by omega) (by omega)), trivial⟩ trivial ⟨mk' (mkB (n := 64 * n) (by omega) (by omega)), cp (copyB (T := 5) (f := f) (m := m) (n := n) (cb := cb) (by omega)), trivial⟩ ⟨oe (jmayR_ctr hj), oe (sectorsR_ctr hj), trivial⟩ 19 1 [(0, .mrow 5 0 true)] [vA 0 5, sv 5, ch 0] [(1, 1), (2, 2)] hg
theorem e_s (hi : (i : Int) < j.nodes) (hj : MayJ j) (hE : E.length = i) (hg : GE A j nd n S (E ++ [1]) (i + 1)) : GE A j nd n S E i := by
  have hjn := hj.n
  · exact gS (denQ (jobL j ++ [.int .i64 (nd), .int .i64 ((i : Int)), .int .i64 (((i : Int)) + (1))]) (by kernel_rfl) [.v (.slice (some ⟨2, 0, none⟩) (64 * n) (64 * n)), om 3 E.length INF, om 5 (E ++ [1]).length INF] rfl [enc secL S, enc intL E, enc intL (E ++ [1])] (PL.cons (enc_plain secL_plain _) (PL.cons (enc_plain intL_plain _) (PL.cons (enc_plain intL_plain _) no_rows)))) (dE j nd n S (E ++ [1]) (i + 1)) ⟨[(.bin .lss 3 (sv 6) (sv 0), .bool true), (.bin .add 3 (sv 6) (.int .i64 1), sv 7)], [], [([68, 68], ⟨[.chan (some 1), .slice (some ⟨4, 0, none⟩) 1 1], 5, [], [⟨3, 0, false, .mrow 2 1 false, .dead⟩, ⟨4, 1, true, .row 2 (.lst ([.int .i64 1])) false, .row 2 (.lst ([.int .i64 1])) false⟩], [(2, .mrow 2 2 false)], .chan (some 2)⟩)]⟩ [] ⟨qT (((i : Int)) < (j.nodes)) (by omega), aq (.int .i64 (((i : Int)) + (1))) (.int .i64 (IntKind.i64.wrap (((i : Int)) + (1)))) (wVi64 (((i : Int)) + (1)) (by omega) (by omega)), trivial⟩ trivial ⟨ap (appI (z := 0) E 1 1 (by omega)), trivial⟩ trivial 10 [(1, 1), (2, 2), (5, 3)] hg
variable {X : List Rec}
theorem e_ok {s : Int} {l : Lo} (hi : j.nodes ≤ (i : Int)) (hdof : Ctr Try.prog 32 [.slice (some ⟨0, 0, none⟩) (64 * n) (64 * n), mSl 1 E.length INF 0] [(0, .row 5 (.lst (enc secL S)) true), (1, rowOr 2 (enc intL E) true)] (.tuple #[pt 2 0, iv 0]) (devH2 (dA n S j.nodes)))
    (hrof : Ctr Try.prog 33 [.slice (some ⟨0, 0, none⟩) (64 * n) (64 * n), mSl 1 E.length INF 0] [(0, .row 5 (.lst (enc secL S)) true), (1, rowOr 2 (enc intL E) true)] (pt 2 0) (rdH2 n (enc secL S) E))
    (hread : Ctr Try.prog 22 [pt 0 0, jobV j, iv nd] (devH (dA n S j.nodes) true) (.tuple #[iv s, mSl 2 X.length INF 0, iv 0]) [(2, rowOr 47 (enc recL X) false)]) (hreadR : Ctr Try.prog 34 [pt 0 0, jobV j, iv nd] (rdH ⟨n, S, E, -1, false, 0⟩ true) (.tuple #[iv s, mSl 3 X.length INF 0, iv 0]) [(3, rowOr 47 (enc recL X) false)])
    (hopen : Ctr Try.prog 15 [pt 0 0, jobV j, iv nd, iv 1] (devH (dA n S j.nodes) false) (.tuple #[pt 2 0, iv 0]) (devH (dA n S j.nodes) false ++ logA l 3 false)) (hg : GC A X 0) : GE A j nd n S E i := by
  · exact gS (denQ (jobL j ++ [.int .i64 (nd), .int .i64 ((i : Int))] ++ devC (dA n S j.nodes) ++ [.int .i64 (s)] ++ devC (dA n S j.nodes) ++ logC l ++ [.int .i64 ((X.length : Int))]) (by kernel_rfl) [.v (.slice (some ⟨2, 0, none⟩) (64 * n) (64 * n)), om 3 E.length INF, .v (.slice (some ⟨5, 0, none⟩) (dA n S j.nodes).n (dA n S j.nodes).n), .v (.slice (some ⟨7, 0, none⟩) n n), .v (.slice (some ⟨8, 0, none⟩) E.length E.length), om 9 X.length INF, om 10 X.length INF, ow 12 l.L.length INF] rfl [enc secL S, enc intL E, enc secL (dA n S j.nodes).S, enc secL S, enc intL E, enc recL X, enc recL X, enc secL (dA n S j.nodes).S, enc recL l.L] (PL.cons (enc_plain secL_plain _) (PL.cons (enc_plain intL_plain _) (PL.cons (enc_plain secL_plain _) (PL.cons (enc_plain secL_plain _) (PL.cons (enc_plain intL_plain _) (PL.cons (enc_plain recL_plain _) (PL.cons (enc_plain recL_plain _) (PL.cons (enc_plain secL_plain _) (PL.cons (enc_plain recL_plain _) no_rows)))))))))) (dC X 0) ⟨[(.bin .lss 3 (sv 6) (sv 0), .bool false), (.bin .neq 2 (sv 20) (sv 20), .bool false), (.len 43 (.chan (some 5)), sv 43), (.len 43 (.chan (some 6)), sv 43), (.bin .neq 3 (sv 43) (sv 43), .bool false)], [], []⟩ [(32, [⟨[.chan (some 0), .chan (some 1)], 4, [], [⟨2, 0, true, .orow 5 0 false, .orow 5 0 false⟩, ⟨3, 1, true, .mrow 2 1 false, .mrow 2 1 false⟩], [(2, .row 95 (.lst ([.chan (some 2)] ++ svs 7 13)) false), (3, .orow 114 2 false)], .tuple #[.pointer (some ⟨4, 0, none⟩), .int .i64 0]⟩]), (33, [⟨[.chan (some 0), .chan (some 1)], 6, [], [⟨2, 0, true, .orow 5 0 false, .orow 5 0 false⟩, ⟨3, 1, true, .mrow 2 1 false, .mrow 2 1 false⟩], [(2, .row 122 (.lst ([.chan (some 3), .chan (some 4), .int .i64 (-1), .bool false, .int .i64 0])) false), (3, .orow 114 3 false), (4, .orow 2 4 false)], .pointer (some ⟨6, 0, none⟩)⟩]), (22, [⟨[.pointer (some ⟨4, 0, none⟩), .agg #[sv 0, sv 1, sv 2, sv 3, sv 4], sv 5], 9, [], [⟨4, 0, true, .row 95 (.lst ([.chan (some 2)] ++ svs 7 13)) false, .row 95 (.lst ([.chan (some 2)] ++ svs 7 13)) false⟩, ⟨5, 1, true, .orow 114 2 false, .orow 114 2 false⟩], [(2, .mrow 47 5 false)], .tuple #[sv 20, .chan (some 5), .int .i64 0]⟩]), (34, [⟨[.pointer (some ⟨6, 0, none⟩), .agg #[sv 0, sv 1, sv 2, sv 3, sv 4], sv 5], 10, [], [⟨6, 0, true, .row 122 (.lst ([.chan (some 3), .chan (some 4), .int .i64 (-1), .bool false, .int .i64 0])) false, .row 122 (.lst ([.chan (some 3), .chan (some 4), .int .i64 (-1), .bool false, .int .i64 0])) false⟩, ⟨7, 1, true, .orow 114 3 false, .orow 114 3 false⟩, ⟨8, 2, true, .orow 2 4 false, .orow 2 4 false⟩], [(3, .mrow 47 6 false)], .tuple #[sv 20, .chan (some 6), .int .i64 0]⟩]), (15, [⟨[.pointer (some ⟨4, 0, none⟩), .agg #[sv 0, sv 1, sv 2, sv 3, sv 4], sv 5, .int .i64 1], 11, [], [⟨4, 0, false, .row 95 (.lst ([.chan (some 2)] ++ svs 7 13)) false, .row 95 (.lst ([.chan (some 2)] ++ svs 21 13)) false⟩, ⟨5, 1, false, .orow 114 2 false, .orow 114 7 false⟩], [(2, .row 62 (.lst ([.pointer (some ⟨4, 0, none⟩)] ++ svs 34 9 ++ [.chan (some 7)])) false), (3, .mrow 47 8 false)], .tuple #[.pointer (some ⟨11, 0, none⟩), .int .i64 0]⟩])] ⟨qF (((i : Int)) < (j.nodes)) (by omega), nF (s) (s) (by omega), asLen u43 rfl (by kernel_rfl), asLen u43 rfl (by kernel_rfl), nF ((X.length : Int)) ((X.length : Int)) (by omega), trivial⟩ trivial trivial ⟨oe hdof, oe hrof, oe hread, oe hreadR, oe hopen, trivial⟩ 30 [(9, 2), (10, 3)] hg
theorem e_bad (hi : j.nodes ≤ (i : Int)) (hdof : Ctr Try.prog 32 [.slice (some ⟨0, 0, none⟩) (64 * n) (64 * n), mSl 1 E.length INF 0] [(0, .row 5 (.lst (enc secL S)) true), (1, rowOr 2 (enc intL E) true)] (.tuple #[pt 2 0, iv 0]) (devH2 (dA n S j.nodes)))
    (hrof : Ctr Try.prog 33 [.slice (some ⟨0, 0, none⟩) (64 * n) (64 * n), mSl 1 E.length INF 0] [(0, .row 5 (.lst (enc secL S)) true), (1, rowOr 2 (enc intL E) true)] (pt 2 0) (rdH2 n (enc secL S) E))
    (hread : Ctr Try.prog 22 [pt 0 0, jobV j, iv nd] (devH (dA n S j.nodes) true) (.tuple #[iv 0, .slice none 0 0, iv 12]) []) (hreadR : Ctr Try.prog 34 [pt 0 0, jobV j, iv nd] (rdH ⟨n, S, E, -1, false, 0⟩ true) (.tuple #[iv 0, .slice none 0 0, iv 12]) [])
    (hopen : Ctr Try.prog 15 [pt 0 0, jobV j, iv nd, iv 1] (devH (dA n S j.nodes) false) (.tuple #[.pointer none, iv 12]) (devH (dA n S j.nodes) false)) (hg : GC A [] 0) : GE A j nd n S E i := by
  have hg := hg.nil
  · exact gS (denQ (jobL j ++ [.int .i64 (nd), .int .i64 ((i : Int))] ++ devC (dA n S j.nodes) ++ devC (dA n S j.nodes)) (by kernel_rfl) [.v (.slice (some ⟨2, 0, none⟩) (64 * n) (64 * n)), om 3 E.length INF, .v (.slice (some ⟨5, 0, none⟩) (dA n S j.nodes).n (dA n S j.nodes).n), .v (.slice (some ⟨7, 0, none⟩) n n), .v (.slice (some ⟨8, 0, none⟩) E.length E.length)] rfl [enc secL S, enc intL E, enc secL (dA n S j.nodes).S, enc secL S, enc intL E, enc secL (dA n S j.nodes).S] (PL.cons (enc_plain secL_plain _) (PL.cons (enc_plain intL_plain _) (PL.cons (enc_plain secL_plain _) (PL.cons (enc_plain secL_plain _) (PL.cons (enc_plain intL_plain _) (PL.cons (enc_plain secL_plain _) no_rows))))))) (dC [] 0) ⟨[(.bin .lss 3 (sv 6) (sv 0), .bool false)], [], []⟩ [(32, [⟨[.chan (some 0), .chan (some 1)], 4, [], [⟨2, 0, true, .orow 5 0 false, .orow 5 0 false⟩, ⟨3, 1, true, .mrow 2 1 false, .mrow 2 1 false⟩], [(2, .row 95 (.lst ([.chan (some 2)] ++ svs 7 13)) false), (3, .orow 114 2 false)], .tuple #[.pointer (some ⟨4, 0, none⟩), .int .i64 0]⟩]), (33, [⟨[.chan (some 0), .chan (some 1)], 6, [], [⟨2, 0, true, .orow 5 0 false, .orow 5 0 false⟩, ⟨3, 1, true, .mrow 2 1 false, .mrow 2 1 false⟩], [(2, .row 122 (.lst ([.chan (some 3), .chan (some 4), .int .i64 (-1), .bool false, .int .i64 0])) false), (3, .orow 114 3 false), (4, .orow 2 4 false)], .pointer (some ⟨6, 0, none⟩)⟩]), (22, [⟨[.pointer (some ⟨4, 0, none⟩), .agg #[sv 0, sv 1, sv 2, sv 3, sv 4], sv 5], 9, [], [⟨4, 0, true, .row 95 (.lst ([.chan (some 2)] ++ svs 7 13)) false, .row 95 (.lst ([.chan (some 2)] ++ svs 7 13)) false⟩, ⟨5, 1, true, .orow 114 2 false, .orow 114 2 false⟩], [], .tuple #[.int .i64 0, .slice none 0 0, .int .i64 12]⟩]), (34, [⟨[.pointer (some ⟨6, 0, none⟩), .agg #[sv 0, sv 1, sv 2, sv 3, sv 4], sv 5], 9, [], [⟨6, 0, true, .row 122 (.lst ([.chan (some 3), .chan (some 4), .int .i64 (-1), .bool false, .int .i64 0])) false, .row 122 (.lst ([.chan (some 3), .chan (some 4), .int .i64 (-1), .bool false, .int .i64 0])) false⟩, ⟨7, 1, true, .orow 114 3 false, .orow 114 3 false⟩, ⟨8, 2, true, .orow 2 4 false, .orow 2 4 false⟩], [], .tuple #[.int .i64 0, .slice none 0 0, .int .i64 12]⟩]), (15, [⟨[.pointer (some ⟨4, 0, none⟩), .agg #[sv 0, sv 1, sv 2, sv 3, sv 4], sv 5, .int .i64 1], 9, [], [⟨4, 0, false, .row 95 (.lst ([.chan (some 2)] ++ svs 7 13)) false, .row 95 (.lst ([.chan (some 2)] ++ svs 20 13)) false⟩, ⟨5, 1, false, .orow 114 2 false, .orow 114 5 false⟩], [], .tuple #[.pointer none, .int .i64 12]⟩])] ⟨qF (((i : Int)) < (j.nodes)) (by omega), trivial⟩ trivial trivial ⟨oe hdof, oe hrof, oe hread, oe hreadR, oe hopen, trivial⟩ 30 [] hg
variable {t : Nat}
theorem c_s (ht : t < X.length) (hX2 : X.length ≤ 1000) (heq : eqR (gt X t) (gt X t) = true) (hg : GC A X (t + 1)) : GC A X t := by
  · exact gS (denQ ([.int .i64 ((t : Int)), .int .i64 ((X.length : Int))] ++ recL (gt X (((t : Int)) : Int).toNat) ++ recL (gt X (((t : Int)) : Int).toNat) ++ [.int .i64 (((t : Int)) + (1))]) (by kernel_rfl) [om 2 X.length INF, om 3 X.length INF, .v (.pointer (some ⟨2, 0 + (((t : Int)) : Int).toNat * 101, none⟩)), .v (.pointer (some ⟨3, 0 + (((t : Int)) : Int).toNat * 101, none⟩))] rfl [enc recL X, enc recL X] (PL.cons (enc_plain recL_plain _) (PL.cons (enc_plain recL_plain _) no_rows))) (dC X (t + 1)) ⟨[(.len 43 (.chan (some 0)), sv 1), (.bin .lss 3 (sv 0) (sv 1), .bool true), (.ixa 43 (.chan (some 0)) (sv 0), .chan (some 2)), (.ixa 43 (.chan (some 1)) (sv 0), .chan (some 3)), (.bin .neq 47 (.agg (svs 2 101).toArray) (.agg (svs 103 101).toArray), .bool false), (.bin .add 3 (sv 0) (.int .i64 1), sv 204)], [⟨47, 2, 2, 0, vA 2 101⟩, ⟨47, 3, 3, 1, vA 103 101⟩], []⟩ [] ⟨asLen u43 rfl (by kernel_rfl), qT (((t : Int)) < ((X.length : Int))) (by omega), asIxaM u43 z47 rfl (by omega) rfl (by omega) (by omega) rfl rfl, asIxaM u43 z47 rfl (by omega) rfl (by omega) (by omega) rfl rfl, aN1 (eqR (gt X ((t : Int) : Int).toNat) (gt X ((t : Int) : Int).toNat)) (heq), aq (.int .i64 (((t : Int)) + (1))) (.int .i64 (IntKind.i64.wrap (((t : Int)) + (1)))) (wVi64 (((t : Int)) + (1)) (by omega) (by omega)), trivial⟩ ⟨ldE recL_len a47 z47 (by omega) rfl rfl (by kernel_rfl), ldE recL_len a47 z47 (by omega) rfl rfl (by kernel_rfl), trivial⟩ trivial trivial 12 [(2, 2), (3, 3)] hg
theorem c_end (ht : X.length ≤ t) : GC A X t := by
  · exact gF (denQ [.int .i64 ((t : Int)), .int .i64 ((X.length : Int))] rfl [om 2 X.length INF, om 3 X.length INF] rfl [enc recL X, enc recL X] (PL.cons (enc_plain recL_plain _) (PL.cons (enc_plain recL_plain _) no_rows))) ⟨[(.len 43 (.chan (some 0)), sv 1), (.bin .lss 3 (sv 0) (sv 1), .bool false)], [], []⟩ [(12, [⟨[], 4, [], [], [], .bool true⟩])] ⟨asLen u43 rfl (by kernel_rfl), qF (((t : Int)) < ((X.length : Int))) (by omega), trivial⟩ trivial trivial ⟨oe known_ctr, trivial⟩ 10 []
end
end Go.Proofs.Ytpennfojidpmeaa
namespace Go.Proofs.Ytpennfojidpmeaa
open Go.Sx
set_option maxRecDepth 20000
theorem headV_cases (s : Sec) : (∃ a e : Int, (1 ≤ a ∧ a ≤ 2147483647) ∧ (0 ≤ e ∧ e ≤ 2147483647) ∧ headV s = .tuple #[.agg #[iv a, iv e], iv 0]) ∨ headV s = .tuple #[.agg #[iv 0, iv 0], iv 12] := by
  unfold headV
  by_cases hz : eqS s zeroS = true
  · rw [if_pos hz]
    exact .inl ⟨1, hE s, by decide, by rw [hE_zero hz]; decide, rfl⟩
  · rw [if_neg hz]
    by_cases h : HOK s ∧ eqS (headS (hS s) (hE s)) s = true
    · rw [if_pos h]
      obtain ⟨⟨a1, a2, a3, a4⟩, _⟩ := h
      exact .inl ⟨hS s, hE s, ⟨a1, a2⟩, ⟨by omega, a4⟩, rfl⟩
    · rw [if_neg h]
      exact .inr rfl
theorem scanL_len (d : Dv) (j : Jb) (n : Int) : ∀ (k : Nat) (m le : Int), (scanL d j n k m le).length ≤ k
  | 0, m, le => Nat.le_refl _
  | k + 1, m, le => by
    unfold scanL
    split
    · split
      · split
        · rw [List.length_cons]; exact Nat.succ_le_succ (scanL_len d j n k _ _)
        · exact Nat.zero_le _
      · exact Nat.zero_le _
    · exact Nat.zero_le _
theorem c_all {A : HL} {X : List Rec} (hX : X.length ≤ 1000) : ∀ (k t : Nat), t + k = X.length → GC A X t
  | 0, t, h => c_end (by omega)
  | k + 1, t, h => c_s (by omega) hX (eqR_refl _) (c_all hX k (t + 1) (by omega))
theorem cpF_byte {f : Nat → Int} {m : Nat} (hf : ∀ i, 0 ≤ f i ∧ f i < 256) (i : Nat) : 0 ≤ cpF f m i ∧ cpF f m i < 256 := by
  unfold cpF
  split
  · exact hf i
  · decide
theorem dA_ok {n : Nat} {F : Nat → Int} (hn : 1 ≤ n ∧ n ≤ 4096) (hF : ∀ i, 0 ≤ F i ∧ F i < 256) {N : Int} (hN : 2 ≤ N ∧ N ≤ 8) : DOK (dA n (secsOf n F) N) := by
  refine ⟨secsOf_len n F, hn, ?_, fun i => ?_, ?_, secsOf_byte hF⟩
  · show 1 ≤ N ∧ N ≤ 8
    omega
  · show 0 ≤ (if (i : Int) < N then (1 : Int) else 0) ∧ (if (i : Int) < N then (1 : Int) else 0) ≤ 2147483647
    split <;> decide
  · show (0 : Int) ≤ 0 ∧ (0 : Int) ≤ 1000000000
    decide
section
variable {A : HL} {j : Jb} {nd : Int} {n : Nat} {F : Nat → Int} (hj : MayJ j) (h1 : 0 ≤ nd ∧ nd < j.nodes) (hs : sects j = n) (hn : 1 ≤ n ∧ n ≤ 4096) (hF : ∀ i, 0 ≤ F i ∧ F i < 256)
include hj h1 hs hn hF
theorem e_fin {E : List Int} {i : Nat} (hi : j.nodes ≤ (i : Int)) (hE : E = List.replicate j.nodes.toNat 1) : GE A j nd n (secsOf n F) E i := by
  have hd := dA_ok hn hF hj.n
  have hdof := dofE hn (secsOf_len n F) hj.n hE
  have hrof := rofE hn (secsOf_len n F) hj.n hE
  have hs' : sects j = (dA n (secsOf n F) j.nodes).n := hs
  rcases headV_cases (gt (dA n (secsOf n F) j.nodes).S (headAt j nd).toNat) with ⟨a, e, ha, he, hh⟩ | hh
  · have hread := read_ok hd hj hs' h1 ha he hh
    have hreadR := readR_ok (q := ⟨n, secsOf n F, E, -1, false, 0⟩) hd rfl rfl hj hs' h1 ha he.1 hh
    have hopen := open_ok hd hj hs' h1 (ep := 1) (by decide) ha he hh
    have hl := scanL_len (dA n (secsOf n F) j.nodes) j nd j.log.toNat a (max1 e)
    have hjl := hj.l
    generalize scanL (dA n (secsOf n F) j.nodes) j nd j.log.toNat a (max1 e) = X at *
    exact e_ok hi hdof hrof hread hreadR hopen (c_all (by omega) X.length 0 (Nat.zero_add _))
  · exact e_bad hi hdof hrof (read_bad hd hj hs' h1 hh) (readR_bad (q := ⟨n, secsOf n F, E, -1, false, 0⟩) hd rfl rfl hj hs' h1 hh) (open_bad hd hj hs' h1 (ep := 1) (by decide) hh) (c_end (Nat.zero_le _))
theorem e_all : ∀ (k i : Nat) (E : List Int), i + k = j.nodes.toNat → E = List.replicate i 1 → GE A j nd n (secsOf n F) E i
  | 0, i, E, h, hE => by
    have hjn := hj.n
    exact e_fin hj h1 hs hn hF (by omega) (by rw [hE]; congr 1)
  | k + 1, i, E, h, hE => by
    have hjn := hj.n
    exact e_s (by omega) hj (by rw [hE, List.length_replicate]) (e_all k (i + 1) (E ++ [1]) (by omega) (by rw [hE, List.replicate_succ']))
end
theorem any_ctr {j : Jb} {nd : Int} {f : Nat → Int} {m cb : Nat} (hf : ∀ i, 0 ≤ f i ∧ f i < 256) : CA j nd f m cb := by
  by_cases hj : MayJ j
  · by_cases hg : 0 ≤ nd ∧ nd < j.nodes
    · have hb := sects_bd hj
      have hjn := hj.n
      have hs : sects j = ((sects j).toNat : Int) := by omega
      exact a_start hj hg hs ⟨by omega, by omega⟩ (e_all hj hg hs ⟨by omega, by omega⟩ (cpF_byte hf) j.nodes.toNat 0 [] (Nat.zero_add _) rfl)
    · exact a_guard (jmayR_ctr hj) hg
  · exact a_nojob (jmayR_f hj)
end Go.Proofs.Ytpennfojidpmeaa

import Derived.Test.YtpennfojidpmeaaQk
namespace Go.Proofs.Ytpennfojidpmeaa
open Go.Sx
set_option maxRecDepth 20000
section
variable {j : Jb} {nd : Int} {S : List Stp} {cS : Nat} {d : Dv} {l : Lo} {X : List Rec} {i : Nat}
set_option maxHeartbeats 4000000 in
theorem rd_f (hi : i < S.length) (hS : S.length ≤ 60) (hk : (gt S i).kind = 1) (happ : Ctr Try.prog 20 [pt 2 0, iv (gt S i).page, .agg (verV (gt S i).v).toArray] (logR l 3 false) (.tuple #[iv 0, iv 5]) (logR l 3 false)) (hl' : LOK l) (hread : Ctr Try.prog 22 [pt 0 0, jobV j, iv nd] (devH d true) (.tuple #[iv l.start, mSl 2 X.length INF 0, iv 0]) [(2, rowOr 47 (enc recL X) false)])
    (hX : (X.length : Int) = l.flushed - l.start + 1) (hb : l.start + l.L.length ≤ 1000000) (hrm : roomM l = j.log - l.L.length) (hjl : 2 ≤ j.log ∧ j.log ≤ 64)
    (hg : GG j nd S cS d l X i) : GH j nd S cS d l i := by
  have hk' : (gt S (((i : Int)) : Int).toNat).kind = 1 := hk
  have hstart := start_ctr (l := l)
  have hfl := flushed_ctr (l := l)
  have hnext := next_ctr hl'
  have hroom := room_ctr hl'
  have hrec := recs_ctr (l := l) (by have := hl'.ln; have := hl'.j.l; omega)
  have hs1 := hl'.st
  have hs2 := hl'.fl
  have hs3 := hl'.ln
  have hs4 := hl'.j.l
  · exact gJ (denQ (jobL j ++ [.int .i64 (nd)] ++ devC d ++ logC l ++ [.int .i64 ((i : Int)), .int .i64 ((S.length : Int))] ++ stpL (gt S (((i : Int)) : Int).toNat) ++ logC l ++ [.int .i64 ((X.length : Int)), .int .i64 ((l.start) + ((X.length : Int))), .int .i64 (((l.start) + ((X.length : Int))) - (1)), .int .i64 ((l.start + l.L.length)), .int .i64 ((roomM l)), .int .i64 (((l.start + l.L.length)) - (l.start)), .int .i64 ((j.log) - (((l.start + l.L.length)) - (l.start)))]) (by kernel_rfl) [oa 0 S.length cS, .v (.slice (some ⟨5, 0, none⟩) d.n d.n), ow 7 l.L.length INF, .v (.pointer (some ⟨0, 0 + (((i : Int)) : Int).toNat * 100, none⟩)), ow 7 l.L.length INF, om 9 X.length INF, ow 14 l.L.length INF] rfl [enc stpL S, enc secL d.S, enc recL l.L, enc recL l.L, enc recL X, enc recL l.L] (PL.cons (enc_plain stpL_plain _) (PL.cons (enc_plain secL_plain _) (PL.cons (enc_plain recL_plain _) (PL.cons (enc_plain recL_plain _) (PL.cons (enc_plain recL_plain _) (PL.cons (enc_plain recL_plain _) no_rows))))))) (dG j nd S cS d l X i 0) (fun _ => sgJ ⟨[(.len 54 (.chan (some 0)), sv 29), (.bin .lss 3 (sv 28) (sv 29), .bool true), (.ixa 54 (.chan (some 0)) (sv 28), .chan (some 3)), (.bin .eql 3 (sv 30) (.int .i64 1), .bool true), (.bin .neq 2 (sv 26) (sv 26), .bool false), (.len 43 (.chan (some 5)), sv 139), (.bin .add 2 (sv 26) (sv 139), sv 140), (.bin .sub 2 (sv 140) (.int .i64 1), sv 141), (.bin .neq 2 (sv 141) (sv 27), .bool false), (.bin .geq 2 (sv 27) (sv 142), .bool false), (.bin .sub 2 (sv 142) (sv 26), sv 144), (.bin .sub 3 (sv 3) (sv 144), sv 145), (.bin .neq 3 (sv 143) (sv 145), .bool false)], [⟨56, 3, 0, 0, vA 30 100⟩], []⟩ [(20, [⟨[.pointer (some ⟨6, 0, none⟩), sv 31, .agg (svs 32 97).toArray], 9, [(4, 0)], [⟨6, 2, false, .row 62 (.lst ([.pointer (some ⟨4, 0, none⟩)] ++ svs 19 9 ++ [.chan (some 2)])) false, .row 62 (.lst ([.pointer (some ⟨4, 0, none⟩)] ++ svs 130 9 ++ [.chan (some 4)])) false⟩, ⟨7, 3, false, .mrow 47 2 false, .mrow 47 3 false⟩], [], .tuple #[.int .i64 0, .int .i64 5]⟩]), (22, [⟨[.pointer (some ⟨4, 0, none⟩), .agg #[sv 0, sv 1, sv 2, sv 3, sv 4], sv 5], 9, [], [⟨4, 0, true, .row 95 (.lst ([.chan (some 1)] ++ svs 6 13)) false, .row 95 (.lst ([.chan (some 1)] ++ svs 6 13)) false⟩, ⟨5, 1, true, .orow 114 1 false, .orow 114 1 false⟩], [(2, .mrow 47 4 false)], .tuple #[sv 26, .chan (some 5), .int .i64 0]⟩]), (28, [⟨[.pointer (some ⟨6, 0, none⟩)], 12, [(4, 0)], [⟨6, 2, true, .row 62 (.lst ([.pointer (some ⟨4, 0, none⟩)] ++ svs 130 9 ++ [.chan (some 4)])) false, .row 62 (.lst ([.pointer (some ⟨4, 0, none⟩)] ++ svs 130 9 ++ [.chan (some 4)])) false⟩, ⟨7, 3, true, .mrow 47 3 false, .mrow 47 3 false⟩], [], sv 26⟩]), (24, [⟨[.pointer (some ⟨6, 0, none⟩)], 12, [(4, 0)], [⟨6, 2, true, .row 62 (.lst ([.pointer (some ⟨4, 0, none⟩)] ++ svs 130 9 ++ [.chan (some 4)])) false, .row 62 (.lst ([.pointer (some ⟨4, 0, none⟩)] ++ svs 130 9 ++ [.chan (some 4)])) false⟩, ⟨7, 3, true, .mrow 47 3 false, .mrow 47 3 false⟩], [], sv 27⟩]), (19, [⟨[.pointer (some ⟨6, 0, none⟩)], 12, [(4, 0)], [⟨6, 2, true, .row 62 (.lst ([.pointer (some ⟨4, 0, none⟩)] ++ svs 130 9 ++ [.chan (some 4)])) false, .row 62 (.lst ([.pointer (some ⟨4, 0, none⟩)] ++ svs 130 9 ++ [.chan (some 4)])) false⟩, ⟨7, 3, true, .mrow 47 3 false, .mrow 47 3 false⟩], [], sv 142⟩]), (16, [⟨[.pointer (some ⟨6, 0, none⟩)], 12, [(4, 0)], [⟨6, 2, true, .row 62 (.lst ([.pointer (some ⟨4, 0, none⟩)] ++ svs 130 9 ++ [.chan (some 4)])) false, .row 62 (.lst ([.pointer (some ⟨4, 0, none⟩)] ++ svs 130 9 ++ [.chan (some 4)])) false⟩, ⟨7, 3, true, .mrow 47 3 false, .mrow 47 3 false⟩], [], sv 143⟩]), (29, [⟨[.pointer (some ⟨6, 0, none⟩)], 13, [(4, 0)], [⟨6, 2, true, .row 62 (.lst ([.pointer (some ⟨4, 0, none⟩)] ++ svs 130 9 ++ [.chan (some 4)])) false, .row 62 (.lst ([.pointer (some ⟨4, 0, none⟩)] ++ svs 130 9 ++ [.chan (some 4)])) false⟩, ⟨7, 3, true, .mrow 47 3 false, .mrow 47 3 false⟩], [(4, .row 43 (.lst [ch 6]) false), (5, .mrow 47 5 false)], .func (.func 73) #[] #[.pointer (some ⟨13, 0, none⟩)]⟩])] ⟨asLen u54 rfl (by kernel_rfl), qT (((i : Int)) < ((S.length : Int))) (by omega), asIxaM u54 z56 rfl (by omega) rfl (by omega) (by omega) rfl rfl, eT ((gt S (((i : Int)) : Int).toNat).kind) (1) (by omega), nF (l.start) (l.start) (by omega), asLen u43 rfl (by kernel_rfl), aq (.int .i64 ((l.start) + ((X.length : Int)))) (.int .i64 (IntKind.i64.wrap ((l.start) + ((X.length : Int))))) (wVi64 ((l.start) + ((X.length : Int))) (by omega) (by omega)), aq (.int .i64 (((l.start) + ((X.length : Int))) - (1))) (.int .i64 (IntKind.i64.wrap (((l.start) + ((X.length : Int))) - (1)))) (wVi64 (((l.start) + ((X.length : Int))) - (1)) (by omega) (by omega)), nF (((l.start) + ((X.length : Int))) - (1)) (l.flushed) (by omega), qF ((l.flushed) ≥ ((l.start + l.L.length))) (by omega), aq (.int .i64 (((l.start + l.L.length)) - (l.start))) (.int .i64 (IntKind.i64.wrap (((l.start + l.L.length)) - (l.start)))) (wVi64 (((l.start + l.L.length)) - (l.start)) (by omega) (by omega)), aq (.int .i64 ((j.log) - (((l.start + l.L.length)) - (l.start)))) (.int .i64 (IntKind.i64.wrap ((j.log) - (((l.start + l.L.length)) - (l.start))))) (wVi64 ((j.log) - (((l.start + l.L.length)) - (l.start))) (by omega) (by omega)), nF ((roomM l)) ((j.log) - (((l.start + l.L.length)) - (l.start))) (by omega), trivial⟩ ⟨ldE stpL_len a56 z56 (by omega) rfl rfl (by kernel_rfl), trivial⟩ trivial ⟨oe happ, oe hread, oe hstart, oe hfl, oe hnext, oe hroom, oe hrec, trivial⟩) 34 [(0, 0), (1, 1), (2, 2), (3, 3), (4, 4), (5, 5), (6, 6), (7, 7), (12, 8), (10, 9), (11, 10), (9, 11), (13, 12), (14, 13)] [9] hg
set_option maxHeartbeats 4000000 in
theorem rd_l (hi : i < S.length) (hS : S.length ≤ 60) (hk : (gt S i).kind = 2) (hflush : Ctr Try.prog 17 [pt 2 0] (devH d false ++ logA l 3 false) (iv 0) (devH (flW l d) false ++ logA (flL l) 3 false)) (hl' : LOK (flL l)) (hread : Ctr Try.prog 22 [pt 0 0, jobV j, iv nd] (devH (flW l d) true) (.tuple #[iv (flL l).start, mSl 2 X.length INF 0, iv 0]) [(2, rowOr 47 (enc recL X) false)])
    (hX : (X.length : Int) = (flL l).flushed - (flL l).start + 1) (hb : (flL l).start + (flL l).L.length ≤ 1000000) (hrm : roomM (flL l) = j.log - (flL l).L.length) (hjl : 2 ≤ j.log ∧ j.log ≤ 64)
    (hg : GG j nd S cS (flW l d) (flL l) X i) : GH j nd S cS d l i := by
  have hk' : (gt S (((i : Int)) : Int).toNat).kind = 2 := hk
  have hstart := start_ctr (l := (flL l))
  have hfl := flushed_ctr (l := (flL l))
  have hnext := next_ctr hl'
  have hroom := room_ctr hl'
  have hrec := recs_ctr (l := (flL l)) (by have := hl'.ln; have := hl'.j.l; omega)
  have hs1 := hl'.st
  have hs2 := hl'.fl
  have hs3 := hl'.ln
  have hs4 := hl'.j.l
  · exact gJ (denQ (jobL j ++ [.int .i64 (nd)] ++ devC d ++ logC l ++ [.int .i64 ((i : Int)), .int .i64 ((S.length : Int))] ++ stpL (gt S (((i : Int)) : Int).toNat) ++ devC (flW l d) ++ logC (flL l) ++ [.int .i64 ((X.length : Int)), .int .i64 (((flL l).start) + ((X.length : Int))), .int .i64 ((((flL l).start) + ((X.length : Int))) - (1)), .int .i64 (((flL l).start + (flL l).L.length)), .int .i64 ((roomM (flL l))), .int .i64 ((((flL l).start + (flL l).L.length)) - ((flL l).start)), .int .i64 ((j.log) - ((((flL l).start + (flL l).L.length)) - ((flL l).start)))]) (by kernel_rfl) [oa 0 S.length cS, .v (.slice (some ⟨5, 0, none⟩) d.n d.n), ow 7 l.L.length INF, .v (.pointer (some ⟨0, 0 + (((i : Int)) : Int).toNat * 100, none⟩)), ow 7 (flL l).L.length INF, om 9 X.length INF, ow 14 (flL l).L.length INF] rfl [enc stpL S, enc secL d.S, enc recL l.L, enc secL (flW l d).S, enc recL (flL l).L, enc recL X, enc recL (flL l).L] (PL.cons (enc_plain stpL_plain _) (PL.cons (enc_plain secL_plain _) (PL.cons (enc_plain recL_plain _) (PL.cons (enc_plain secL_plain _) (PL.cons (enc_plain recL_plain _) (PL.cons (enc_plain recL_plain _) (PL.cons (enc_plain recL_plain _) no_rows)))))))) (dG j nd S cS (flW l d) (flL l) X i 0) (fun _ => sgJ ⟨[(.len 54 (.chan (some 0)), sv 29), (.bin .lss 3 (sv 28) (sv 29), .bool true), (.ixa 54 (.chan (some 0)) (sv 28), .chan (some 3)), (.bin .eql 3 (sv 30) (.int .i64 1), .bool false), (.bin .eql 3 (sv 30) (.int .i64 2), .bool true), (.bin .neq 2 (sv 150) (sv 150), .bool false), (.len 43 (.chan (some 5)), sv 152), (.bin .add 2 (sv 150) (sv 152), sv 153), (.bin .sub 2 (sv 153) (.int .i64 1), sv 154), (.bin .neq 2 (sv 154) (sv 151), .bool false), (.bin .geq 2 (sv 151) (sv 155), .bool false), (.bin .sub 2 (sv 155) (sv 150), sv 157), (.bin .sub 3 (sv 3) (sv 157), sv 158), (.bin .neq 3 (sv 156) (sv 158), .bool false)], [⟨56, 3, 0, 0, vA 30 100⟩], []⟩ [(17, [⟨[.pointer (some ⟨6, 0, none⟩)], 9, [], [⟨4, 0, false, .row 95 (.lst ([.chan (some 1)] ++ svs 6 13)) false, .row 95 (.lst ([.chan (some 1)] ++ svs 130 13)) false⟩, ⟨5, 1, false, .orow 114 1 false, .orow 114 3 false⟩, ⟨6, 2, false, .row 62 (.lst ([.pointer (some ⟨4, 0, none⟩)] ++ svs 19 9 ++ [.chan (some 2)])) false, .row 62 (.lst ([.pointer (some ⟨4, 0, none⟩)] ++ svs 143 9 ++ [.chan (some 4)])) false⟩, ⟨7, 3, false, .mrow 47 2 false, .mrow 47 4 false⟩], [], .int .i64 0⟩]), (22, [⟨[.pointer (some ⟨4, 0, none⟩), .agg #[sv 0, sv 1, sv 2, sv 3, sv 4], sv 5], 9, [], [⟨4, 0, true, .row 95 (.lst ([.chan (some 1)] ++ svs 130 13)) false, .row 95 (.lst ([.chan (some 1)] ++ svs 130 13)) false⟩, ⟨5, 1, true, .orow 114 3 false, .orow 114 3 false⟩], [(2, .mrow 47 5 false)], .tuple #[sv 150, .chan (some 5), .int .i64 0]⟩]), (28, [⟨[.pointer (some ⟨6, 0, none⟩)], 12, [(4, 0)], [⟨6, 2, true, .row 62 (.lst ([.pointer (some ⟨4, 0, none⟩)] ++ svs 143 9 ++ [.chan (some 4)])) false, .row 62 (.lst ([.pointer (some ⟨4, 0, none⟩)] ++ svs 143 9 ++ [.chan (some 4)])) false⟩, ⟨7, 3, true, .mrow 47 4 false, .mrow 47 4 false⟩], [], sv 150⟩]), (24, [⟨[.pointer (some ⟨6, 0, none⟩)], 12, [(4, 0)], [⟨6, 2, true, .row 62 (.lst ([.pointer (some ⟨4, 0, none⟩)] ++ svs 143 9 ++ [.chan (some 4)])) false, .row 62 (.lst ([.pointer (some ⟨4, 0, none⟩)] ++ svs 143 9 ++ [.chan (some 4)])) false⟩, ⟨7, 3, true, .mrow 47 4 false, .mrow 47 4 false⟩], [], sv 151⟩]), (19, [⟨[.pointer (some ⟨6, 0, none⟩)], 12, [(4, 0)], [⟨6, 2, true, .row 62 (.lst ([.pointer (some ⟨4, 0, none⟩)] ++ svs 143 9 ++ [.chan (some 4)])) false, .row 62 (.lst ([.pointer (some ⟨4, 0, none⟩)] ++ svs 143 9 ++ [.chan (some 4)])) false⟩, ⟨7, 3, true, .mrow 47 4 false, .mrow 47 4 false⟩], [], sv 155⟩]), (16, [⟨[.pointer (some ⟨6, 0, none⟩)], 12, [(4, 0)], [⟨6, 2, true, .row 62 (.lst ([.pointer (some ⟨4, 0, none⟩)] ++ svs 143 9 ++ [.chan (some 4)])) false, .row 62 (.lst ([.pointer (some ⟨4, 0, none⟩)] ++ svs 143 9 ++ [.chan (some 4)])) false⟩, ⟨7, 3, true, .mrow 47 4 false, .mrow 47 4 false⟩], [], sv 156⟩]), (29, [⟨[.pointer (some ⟨6, 0, none⟩)], 13, [(4, 0)], [⟨6, 2, true, .row 62 (.lst ([.pointer (some ⟨4, 0, none⟩)] ++ svs 143 9 ++ [.chan (some 4)])) false, .row 62 (.lst ([.pointer (some ⟨4, 0, none⟩)] ++ svs 143 9 ++ [.chan (some 4)])) false⟩, ⟨7, 3, true, .mrow 47 4 false, .mrow 47 4 false⟩], [(4, .row 43 (.lst [ch 6]) false), (5, .mrow 47 6 false)], .func (.func 73) #[] #[.pointer (some ⟨13, 0, none⟩)]⟩])] ⟨asLen u54 rfl (by kernel_rfl), qT (((i : Int)) < ((S.length : Int))) (by omega), asIxaM u54 z56 rfl (by omega) rfl (by omega) (by omega) rfl rfl, eF ((gt S (((i : Int)) : Int).toNat).kind) (1) (by omega), eT ((gt S (((i : Int)) : Int).toNat).kind) (2) (by omega), nF ((flL l).start) ((flL l).start) (by omega), asLen u43 rfl (by kernel_rfl), aq (.int .i64 (((flL l).start) + ((X.length : Int)))) (.int .i64 (IntKind.i64.wrap (((flL l).start) + ((X.length : Int))))) (wVi64 (((flL l).start) + ((X.length : Int))) (by omega) (by omega)), aq (.int .i64 ((((flL l).start) + ((X.length : Int))) - (1))) (.int .i64 (IntKind.i64.wrap ((((flL l).start) + ((X.length : Int))) - (1)))) (wVi64 ((((flL l).start) + ((X.length : Int))) - (1)) (by omega) (by omega)), nF ((((flL l).start) + ((X.length : Int))) - (1)) ((flL l).flushed) (by omega), qF (((flL l).flushed) ≥ (((flL l).start + (flL l).L.length))) (by omega), aq (.int .i64 ((((flL l).start + (flL l).L.length)) - ((flL l).start))) (.int .i64 (IntKind.i64.wrap ((((flL l).start + (flL l).L.length)) - ((flL l).start)))) (wVi64 ((((flL l).start + (flL l).L.length)) - ((flL l).start)) (by omega) (by omega)), aq (.int .i64 ((j.log) - ((((flL l).start + (flL l).L.length)) - ((flL l).start)))) (.int .i64 (IntKind.i64.wrap ((j.log) - ((((flL l).start + (flL l).L.length)) - ((flL l).start))))) (wVi64 ((j.log) - ((((flL l).start + (flL l).L.length)) - ((flL l).start))) (by omega) (by omega)), nF ((roomM (flL l))) ((j.log) - ((((flL l).start + (flL l).L.length)) - ((flL l).start))) (by omega), trivial⟩ ⟨ldE stpL_len a56 z56 (by omega) rfl rfl (by kernel_rfl), trivial⟩ trivial ⟨oe hflush, oe hread, oe hstart, oe hfl, oe hnext, oe hroom, oe hrec, trivial⟩) 34 [(0, 0), (1, 1), (2, 2), (3, 3), (4, 4), (5, 5), (6, 6), (7, 7), (12, 8), (10, 9), (11, 10), (9, 11), (13, 12), (14, 13)] [9] hg
end
end Go.Proofs.Ytpennfojidpmeaa
namespace Go.Proofs.Ytpennfojidpmeaa
open Go.Sx
set_option maxRecDepth 20000
section
variable {j : Jb} {nd : Int} {S : List Stp} {cS : Nat} {d : Dv} {l : Lo} {X : List Rec} {i : Nat}
set_option maxHeartbeats 4000000 in
theorem rd_c (hi : i < S.length) (hS : S.length ≤ 60) (hk : (gt S i).kind = 3) (hcut : Ctr Try.prog 18 [pt 2 0, iv (gt S i).n] (devH d false ++ logA l 3 false) (iv 0) (devH (write1 d (headAt l.j l.node) (headS (gt S i).n l.epoch)) false ++ [(2, .row 62 (.lst (logRow (cutM l (gt S i).n) 4)) false), (3, .dead), (4, rowOr 47 (enc recL (cutM l (gt S i).n).L) false)])) (hl' : LOK (cutM l (gt S i).n)) (hread : Ctr Try.prog 22 [pt 0 0, jobV j, iv nd] (devH (write1 d (headAt l.j l.node) (headS (gt S i).n l.epoch)) true) (.tuple #[iv (cutM l (gt S i).n).start, mSl 2 X.length INF 0, iv 0]) [(2, rowOr 47 (enc recL X) false)])
    (hX : (X.length : Int) = (cutM l (gt S i).n).flushed - (cutM l (gt S i).n).start + 1) (hb : (cutM l (gt S i).n).start + (cutM l (gt S i).n).L.length ≤ 1000000) (hrm : roomM (cutM l (gt S i).n) = j.log - (cutM l (gt S i).n).L.length) (hjl : 2 ≤ j.log ∧ j.log ≤ 64)
    (hg : GG j nd S cS (write1 d (headAt l.j l.node) (headS (gt S i).n l.epoch)) (cutM l (gt S i).n) X i) : GH j nd S cS d l i := by
  have hk' : (gt S (((i : Int)) : Int).toNat).kind = 3 := hk
  have hstart := start_ctr (l := (cutM l (gt S i).n))
  have hfl := flushed_ctr (l := (cutM l (gt S i).n))
  have hnext := next_ctr hl'
  have hroom := room_ctr hl'
  have hrec := recs_ctr (l := (cutM l (gt S i).n)) (by have := hl'.ln; have := hl'.j.l; omega)
  have hs1 := hl'.st
  have hs2 := hl'.fl
  have hs3 := hl'.ln
  have hs4 := hl'.j.l
  · exact gJ (denQ (jobL j ++ [.int .i64 (nd)] ++ devC d ++ logC l ++ [.int .i64 ((i : Int)), .int .i64 ((S.length : Int))] ++ stpL (gt S (((i : Int)) : Int).toNat) ++ devC (write1 d (headAt l.j l.node) (headS (gt S i).n l.epoch)) ++ logC (cutM l (gt S i).n) ++ [.int .i64 ((X.length : Int)), .int .i64 (((cutM l (gt S i).n).start) + ((X.length : Int))), .int .i64 ((((cutM l (gt S i).n).start) + ((X.length : Int))) - (1)), .int .i64 (((cutM l (gt S i).n).start + (cutM l (gt S i).n).L.length)), .int .i64 ((roomM (cutM l (gt S i).n))), .int .i64 ((((cutM l (gt S i).n).start + (cutM l (gt S i).n).L.length)) - ((cutM l (gt S i).n).start)), .int .i64 ((j.log) - ((((cutM l (gt S i).n).start + (cutM l (gt S i).n).L.length)) - ((cutM l (gt S i).n).start)))]) (by kernel_rfl) [oa 0 S.length cS, .v (.slice (some ⟨5, 0, none⟩) d.n d.n), ow 7 l.L.length INF, .v (.pointer (some ⟨0, 0 + (((i : Int)) : Int).toNat * 100, none⟩)), ow 9 (cutM l (gt S i).n).L.length INF, om 10 X.length INF, ow 15 (cutM l (gt S i).n).L.length INF] rfl [enc stpL S, enc secL d.S, enc recL l.L, enc secL (write1 d (headAt l.j l.node) (headS (gt S i).n l.epoch)).S, enc recL (cutM l (gt S i).n).L, enc recL X, enc recL (cutM l (gt S i).n).L] (PL.cons (enc_plain stpL_plain _) (PL.cons (enc_plain secL_plain _) (PL.cons (enc_plain recL_plain _) (PL.cons (enc_plain secL_plain _) (PL.cons (enc_plain recL_plain _) (PL.cons (enc_plain recL_plain _) (PL.cons (enc_plain recL_plain _) no_rows)))))))) (dG j nd S cS (write1 d (headAt l.j l.node) (headS (gt S i).n l.epoch)) (cutM l (gt S i).n) X i 0) (fun _ => sgJ ⟨[(.len 54 (.chan (some 0)), sv 29), (.bin .lss 3 (sv 28) (sv 29), .bool true), (.ixa 54 (.chan (some 0)) (sv 28), .chan (some 3)), (.bin .eql 3 (sv 30) (.int .i64 1), .bool false), (.bin .eql 3 (sv 30) (.int .i64 2), .bool false), (.bin .eql 3 (sv 30) (.int .i64 3), .bool true), (.bin .neq 2 (sv 150) (sv 150), .bool false), (.len 43 (.chan (some 5)), sv 152), (.bin .add 2 (sv 150) (sv 152), sv 153), (.bin .sub 2 (sv 153) (.int .i64 1), sv 154), (.bin .neq 2 (sv 154) (sv 151), .bool false), (.bin .geq 2 (sv 151) (sv 155), .bool false), (.bin .sub 2 (sv 155) (sv 150), sv 157), (.bin .sub 3 (sv 3) (sv 157), sv 158), (.bin .neq 3 (sv 156) (sv 158), .bool false)], [⟨56, 3, 0, 0, vA 30 100⟩], []⟩ [(18, [⟨[.pointer (some ⟨6, 0, none⟩), sv 129], 9, [], [⟨4, 0, false, .row 95 (.lst ([.chan (some 1)] ++ svs 6 13)) false, .row 95 (.lst ([.chan (some 1)] ++ svs 130 13)) false⟩, ⟨5, 1, false, .orow 114 1 false, .orow 114 3 false⟩, ⟨6, 2, false, .row 62 (.lst ([.pointer (some ⟨4, 0, none⟩)] ++ svs 19 9 ++ [.chan (some 2)])) false, .row 62 (.lst ([.pointer (some ⟨4, 0, none⟩)] ++ svs 143 9 ++ [.chan (some 4)])) false⟩, ⟨7, 3, false, .mrow 47 2 false, .dead⟩], [(4, .mrow 47 4 false)], .int .i64 0⟩]), (22, [⟨[.pointer (some ⟨4, 0, none⟩), .agg #[sv 0, sv 1, sv 2, sv 3, sv 4], sv 5], 10, [], [⟨4, 0, true, .row 95 (.lst ([.chan (some 1)] ++ svs 130 13)) false, .row 95 (.lst ([.chan (some 1)] ++ svs 130 13)) false⟩, ⟨5, 1, true, .orow 114 3 false, .orow 114 3 false⟩], [(2, .mrow 47 5 false)], .tuple #[sv 150, .chan (some 5), .int .i64 0]⟩]), (28, [⟨[.pointer (some ⟨6, 0, none⟩)], 13, [(4, 0)], [⟨6, 2, true, .row 62 (.lst ([.pointer (some ⟨4, 0, none⟩)] ++ svs 143 9 ++ [.chan (some 4)])) false, .row 62 (.lst ([.pointer (some ⟨4, 0, none⟩)] ++ svs 143 9 ++ [.chan (some 4)])) false⟩, ⟨9, 3, true, .mrow 47 4 false, .mrow 47 4 false⟩], [], sv 150⟩]), (24, [⟨[.pointer (some ⟨6, 0, none⟩)], 13, [(4, 0)], [⟨6, 2, true, .row 62 (.lst ([.pointer (some ⟨4, 0, none⟩)] ++ svs 143 9 ++ [.chan (some 4)])) false, .row 62 (.lst ([.pointer (some ⟨4, 0, none⟩)] ++ svs 143 9 ++ [.chan (some 4)])) false⟩, ⟨9, 3, true, .mrow 47 4 false, .mrow 47 4 false⟩], [], sv 151⟩]), (19, [⟨[.pointer (some ⟨6, 0, none⟩)], 13, [(4, 0)], [⟨6, 2, true, .row 62 (.lst ([.pointer (some ⟨4, 0, none⟩)] ++ svs 143 9 ++ [.chan (some 4)])) false, .row 62 (.lst ([.pointer (some ⟨4, 0, none⟩)] ++ svs 143 9 ++ [.chan (some 4)])) false⟩, ⟨9, 3, true, .mrow 47 4 false, .mrow 47 4 false⟩], [], sv 155⟩]), (16, [⟨[.pointer (some ⟨6, 0, none⟩)], 13, [(4, 0)], [⟨6, 2, true, .row 62 (.lst ([.pointer (some ⟨4, 0, none⟩)] ++ svs 143 9 ++ [.chan (some 4)])) false, .row 62 (.lst ([.pointer (some ⟨4, 0, none⟩)] ++ svs 143 9 ++ [.chan (some 4)])) false⟩, ⟨9, 3, true, .mrow 47 4 false, .mrow 47 4 false⟩], [], sv 156⟩]), (29, [⟨[.pointer (some ⟨6, 0, none⟩)], 14, [(4, 0)], [⟨6, 2, true, .row 62 (.lst ([.pointer (some ⟨4, 0, none⟩)] ++ svs 143 9 ++ [.chan (some 4)])) false, .row 62 (.lst ([.pointer (some ⟨4, 0, none⟩)] ++ svs 143 9 ++ [.chan (some 4)])) false⟩, ⟨9, 3, true, .mrow 47 4 false, .mrow 47 4 false⟩], [(4, .row 43 (.lst [ch 6]) false), (5, .mrow 47 6 false)], .func (.func 73) #[] #[.pointer (some ⟨14, 0, none⟩)]⟩])] ⟨asLen u54 rfl (by kernel_rfl), qT (((i : Int)) < ((S.length : Int))) (by omega), asIxaM u54 z56 rfl (by omega) rfl (by omega) (by omega) rfl rfl, eF ((gt S (((i : Int)) : Int).toNat).kind) (1) (by omega), eF ((gt S (((i : Int)) : Int).toNat).kind) (2) (by omega), eT ((gt S (((i : Int)) : Int).toNat).kind) (3) (by omega), nF ((cutM l (gt S i).n).start) ((cutM l (gt S i).n).start) (by omega), asLen u43 rfl (by kernel_rfl), aq (.int .i64 (((cutM l (gt S i).n).start) + ((X.length : Int)))) (.int .i64 (IntKind.i64.wrap (((cutM l (gt S i).n).start) + ((X.length : Int))))) (wVi64 (((cutM l (gt S i).n).start) + ((X.length : Int))) (by omega) (by omega)), aq (.int .i64 ((((cutM l (gt S i).n).start) + ((X.length : Int))) - (1))) (.int .i64 (IntKind.i64.wrap ((((cutM l (gt S i).n).start) + ((X.length : Int))) - (1)))) (wVi64 ((((cutM l (gt S i).n).start) + ((X.length : Int))) - (1)) (by omega) (by omega)), nF ((((cutM l (gt S i).n).start) + ((X.length : Int))) - (1)) ((cutM l (gt S i).n).flushed) (by omega), qF (((cutM l (gt S i).n).flushed) ≥ (((cutM l (gt S i).n).start + (cutM l (gt S i).n).L.length))) (by omega), aq (.int .i64 ((((cutM l (gt S i).n).start + (cutM l (gt S i).n).L.length)) - ((cutM l (gt S i).n).start))) (.int .i64 (IntKind.i64.wrap ((((cutM l (gt S i).n).start + (cutM l (gt S i).n).L.length)) - ((cutM l (gt S i).n).start)))) (wVi64 ((((cutM l (gt S i).n).start + (cutM l (gt S i).n).L.length)) - ((cutM l (gt S i).n).start)) (by omega) (by omega)), aq (.int .i64 ((j.log) - ((((cutM l (gt S i).n).start + (cutM l (gt S i).n).L.length)) - ((cutM l (gt S i).n).start)))) (.int .i64 (IntKind.i64.wrap ((j.log) - ((((cutM l (gt S i).n).start + (cutM l (gt S i).n).L.length)) - ((cutM l (gt S i).n).start))))) (wVi64 ((j.log) - ((((cutM l (gt S i).n).start + (cutM l (gt S i).n).L.length)) - ((cutM l (gt S i).n).start))) (by omega) (by omega)), nF ((roomM (cutM l (gt S i).n))) ((j.log) - ((((cutM l (gt S i).n).start + (cutM l (gt S i).n).L.length)) - ((cutM l (gt S i).n).start))) (by omega), trivial⟩ ⟨ldE stpL_len a56 z56 (by omega) rfl rfl (by kernel_rfl), trivial⟩ trivial ⟨oe hcut, oe hread, oe hstart, oe hfl, oe hnext, oe hroom, oe hrec, trivial⟩) 34 [(0, 0), (1, 1), (2, 2), (3, 3), (4, 4), (5, 5), (6, 6), (9, 7), (13, 8), (11, 9), (12, 10), (10, 11), (14, 12), (15, 13)] [10] hg
set_option maxHeartbeats 4000000 in
theorem rd_x (hi : i < S.length) (hS : S.length ≤ 60) (hk : (gt S i).kind = 3) (hcut : Ctr Try.prog 18 [pt 2 0, iv (gt S i).n] (devH d false ++ logA l 3 false) (iv 2) (devH d false ++ logA l 3 false)) (hl' : LOK l) (hread : Ctr Try.prog 22 [pt 0 0, jobV j, iv nd] (devH d true) (.tuple #[iv l.start, mSl 2 X.length INF 0, iv 0]) [(2, rowOr 47 (enc recL X) false)])
    (hX : (X.length : Int) = l.flushed - l.start + 1) (hb : l.start + l.L.length ≤ 1000000) (hrm : roomM l = j.log - l.L.length) (hjl : 2 ≤ j.log ∧ j.log ≤ 64)
    (hg : GG j nd S cS d l X i) : GH j nd S cS d l i := by
  have hk' : (gt S (((i : Int)) : Int).toNat).kind = 3 := hk
  have hstart := start_ctr (l := l)
  have hfl := flushed_ctr (l := l)
  have hnext := next_ctr hl'
  have hroom := room_ctr hl'
  have hrec := recs_ctr (l := l) (by have := hl'.ln; have := hl'.j.l; omega)
  have hs1 := hl'.st
  have hs2 := hl'.fl
  have hs3 := hl'.ln
  have hs4 := hl'.j.l
  · exact gJ (denQ (jobL j ++ [.int .i64 (nd)] ++ devC d ++ logC l ++ [.int .i64 ((i : Int)), .int .i64 ((S.length : Int))] ++ stpL (gt S (((i : Int)) : Int).toNat) ++ devC d ++ logC l ++ [.int .i64 ((X.length : Int)), .int .i64 ((l.start) + ((X.length : Int))), .int .i64 (((l.start) + ((X.length : Int))) - (1)), .int .i64 ((l.start + l.L.length)), .int .i64 ((roomM l)), .int .i64 (((l.start + l.L.length)) - (l.start)), .int .i64 ((j.log) - (((l.start + l.L.length)) - (l.start)))]) (by kernel_rfl) [oa 0 S.length cS, .v (.slice (some ⟨5, 0, none⟩) d.n d.n), ow 7 l.L.length INF, .v (.pointer (some ⟨0, 0 + (((i : Int)) : Int).toNat * 100, none⟩)), ow 7 l.L.length INF, om 9 X.length INF, ow 14 l.L.length INF] rfl [enc stpL S, enc secL d.S, enc recL l.L, enc secL d.S, enc recL l.L, enc recL X, enc recL l.L] (PL.cons (enc_plain stpL_plain _) (PL.cons (enc_plain secL_plain _) (PL.cons (enc_plain recL_plain _) (PL.cons (enc_plain secL_plain _) (PL.cons (enc_plain recL_plain _) (PL.cons (enc_plain recL_plain _) (PL.cons (enc_plain recL_plain _) no_rows)))))))) (dG j nd S cS d l X i 0) (fun _ => sgJ ⟨[(.len 54 (.chan (some 0)), sv 29), (.bin .lss 3 (sv 28) (sv 29), .bool true), (.ixa 54 (.chan (some 0)) (sv 28), .chan (some 3)), (.bin .eql 3 (sv 30) (.int .i64 1), .bool false), (.bin .eql 3 (sv 30) (.int .i64 2), .bool false), (.bin .eql 3 (sv 30) (.int .i64 3), .bool true), (.bin .neq 2 (sv 26) (sv 26), .bool false), (.len 43 (.chan (some 5)), sv 152), (.bin .add 2 (sv 26) (sv 152), sv 153), (.bin .sub 2 (sv 153) (.int .i64 1), sv 154), (.bin .neq 2 (sv 154) (sv 27), .bool false), (.bin .geq 2 (sv 27) (sv 155), .bool false), (.bin .sub 2 (sv 155) (sv 26), sv 157), (.bin .sub 3 (sv 3) (sv 157), sv 158), (.bin .neq 3 (sv 156) (sv 158), .bool false)], [⟨56, 3, 0, 0, vA 30 100⟩], []⟩ [(18, [⟨[.pointer (some ⟨6, 0, none⟩), sv 129], 9, [], [⟨4, 0, false, .row 95 (.lst ([.chan (some 1)] ++ svs 6 13)) false, .row 95 (.lst ([.chan (some 1)] ++ svs 130 13)) false⟩, ⟨5, 1, false, .orow 114 1 false, .orow 114 3 false⟩, ⟨6, 2, false, .row 62 (.lst ([.pointer (some ⟨4, 0, none⟩)] ++ svs 19 9 ++ [.chan (some 2)])) false, .row 62 (.lst ([.pointer (some ⟨4, 0, none⟩)] ++ svs 143 9 ++ [.chan (some 4)])) false⟩, ⟨7, 3, false, .mrow 47 2 false, .mrow 47 4 false⟩], [], .int .i64 2⟩]), (22, [⟨[.pointer (some ⟨4, 0, none⟩), .agg #[sv 0, sv 1, sv 2, sv 3, sv 4], sv 5], 9, [], [⟨4, 0, true, .row 95 (.lst ([.chan (some 1)] ++ svs 130 13)) false, .row 95 (.lst ([.chan (some 1)] ++ svs 130 13)) false⟩, ⟨5, 1, true, .orow 114 3 false, .orow 114 3 false⟩], [(2, .mrow 47 5 false)], .tuple #[sv 26, .chan (some 5), .int .i64 0]⟩]), (28, [⟨[.pointer (some ⟨6, 0, none⟩)], 12, [(4, 0)], [⟨6, 2, true, .row 62 (.lst ([.pointer (some ⟨4, 0, none⟩)] ++ svs 143 9 ++ [.chan (some 4)])) false, .row 62 (.lst ([.pointer (some ⟨4, 0, none⟩)] ++ svs 143 9 ++ [.chan (some 4)])) false⟩, ⟨7, 3, true, .mrow 47 4 false, .mrow 47 4 false⟩], [], sv 26⟩]), (24, [⟨[.pointer (some ⟨6, 0, none⟩)], 12, [(4, 0)], [⟨6, 2, true, .row 62 (.lst ([.pointer (some ⟨4, 0, none⟩)] ++ svs 143 9 ++ [.chan (some 4)])) false, .row 62 (.lst ([.pointer (some ⟨4, 0, none⟩)] ++ svs 143 9 ++ [.chan (some 4)])) false⟩, ⟨7, 3, true, .mrow 47 4 false, .mrow 47 4 false⟩], [], sv 27⟩]), (19, [⟨[.pointer (some ⟨6, 0, none⟩)], 12, [(4, 0)], [⟨6, 2, true, .row 62 (.lst ([.pointer (some ⟨4, 0, none⟩)] ++ svs 143 9 ++ [.chan (some 4)])) false, .row 62 (.lst ([.pointer (some ⟨4, 0, none⟩)] ++ svs 143 9 ++ [.chan (some 4)])) false⟩, ⟨7, 3, true, .mrow 47 4 false, .mrow 47 4 false⟩], [], sv 155⟩]), (16, [⟨[.pointer (some ⟨6, 0, none⟩)], 12, [(4, 0)], [⟨6, 2, true, .row 62 (.lst ([.pointer (some ⟨4, 0, none⟩)] ++ svs 143 9 ++ [.chan (some 4)])) false, .row 62 (.lst ([.pointer (some ⟨4, 0, none⟩)] ++ svs 143 9 ++ [.chan (some 4)])) false⟩, ⟨7, 3, true, .mrow 47 4 false, .mrow 47 4 false⟩], [], sv 156⟩]), (29, [⟨[.pointer (some ⟨6, 0, none⟩)], 13, [(4, 0)], [⟨6, 2, true, .row 62 (.lst ([.pointer (some ⟨4, 0, none⟩)] ++ svs 143 9 ++ [.chan (some 4)])) false, .row 62 (.lst ([.pointer (some ⟨4, 0, none⟩)] ++ svs 143 9 ++ [.chan (some 4)])) false⟩, ⟨7, 3, true, .mrow 47 4 false, .mrow 47 4 false⟩], [(4, .row 43 (.lst [ch 6]) false), (5, .mrow 47 6 false)], .func (.func 73) #[] #[.pointer (some ⟨13, 0, none⟩)]⟩])] ⟨asLen u54 rfl (by kernel_rfl), qT (((i : Int)) < ((S.length : Int))) (by omega), asIxaM u54 z56 rfl (by omega) rfl (by omega) (by omega) rfl rfl, eF ((gt S (((i : Int)) : Int).toNat).kind) (1) (by omega), eF ((gt S (((i : Int)) : Int).toNat).kind) (2) (by omega), eT ((gt S (((i : Int)) : Int).toNat).kind) (3) (by omega), nF (l.start) (l.start) (by omega), asLen u43 rfl (by kernel_rfl), aq (.int .i64 ((l.start) + ((X.length : Int)))) (.int .i64 (IntKind.i64.wrap ((l.start) + ((X.length : Int))))) (wVi64 ((l.start) + ((X.length : Int))) (by omega) (by omega)), aq (.int .i64 (((l.start) + ((X.length : Int))) - (1))) (.int .i64 (IntKind.i64.wrap (((l.start) + ((X.length : Int))) - (1)))) (wVi64 (((l.start) + ((X.length : Int))) - (1)) (by omega) (by omega)), nF (((l.start) + ((X.length : Int))) - (1)) (l.flushed) (by omega), qF ((l.flushed) ≥ ((l.start + l.L.length))) (by omega), aq (.int .i64 (((l.start + l.L.length)) - (l.start))) (.int .i64 (IntKind.i64.wrap (((l.start + l.L.length)) - (l.start)))) (wVi64 (((l.start + l.L.length)) - (l.start)) (by omega) (by omega)), aq (.int .i64 ((j.log) - (((l.start + l.L.length)) - (l.start)))) (.int .i64 (IntKind.i64.wrap ((j.log) - (((l.start + l.L.length)) - (l.start))))) (wVi64 ((j.log) - (((l.start + l.L.length)) - (l.start))) (by omega) (by omega)), nF ((roomM l)) ((j.log) - (((l.start + l.L.length)) - (l.start))) (by omega), trivial⟩ ⟨ldE stpL_len a56 z56 (by omega) rfl rfl (by kernel_rfl), trivial⟩ trivial ⟨oe hcut, oe hread, oe hstart, oe hfl, oe hnext, oe hroom, oe hrec, trivial⟩) 34 [(0, 0), (1, 1), (2, 2), (3, 3), (4, 4), (5, 5), (6, 6), (7, 7), (12, 8), (10, 9), (11, 10), (9, 11), (13, 12), (14, 13)] [9] hg
end
end Go.Proofs.Ytpennfojidpmeaa
namespace Go.Proofs.Ytpennfojidpmeaa
open Go.Sx
set_option maxRecDepth 20000
section
variable {j : Jb} {nd : Int} {S : List Stp} {cS : Nat} {d : Dv} {l : Lo} {X : List Rec} {i : Nat}
set_option maxHeartbeats 4000000 in
theorem rd_o (hi : i < S.length) (hS : S.length ≤ 60) (hk : (gt S i).kind ≠ 1 ∧ (gt S i).kind ≠ 2 ∧ (gt S i).kind ≠ 3) (hl' : LOK l) (hread : Ctr Try.prog 22 [pt 0 0, jobV j, iv nd] (devH d true) (.tuple #[iv l.start, mSl 2 X.length INF 0, iv 0]) [(2, rowOr 47 (enc recL X) false)])
    (hX : (X.length : Int) = l.flushed - l.start + 1) (hb : l.start + l.L.length ≤ 1000000) (hrm : roomM l = j.log - l.L.length) (hjl : 2 ≤ j.log ∧ j.log ≤ 64)
    (hg : GG j nd S cS d l X i) : GH j nd S cS d l i := by
  have hk' : (gt S (((i : Int)) : Int).toNat).kind ≠ 1 ∧ (gt S (((i : Int)) : Int).toNat).kind ≠ 2 ∧ (gt S (((i : Int)) : Int).toNat).kind ≠ 3 := hk
  have hstart := start_ctr (l := l)
  have hfl := flushed_ctr (l := l)
  have hnext := next_ctr hl'
  have hroom := room_ctr hl'
  have hrec := recs_ctr (l := l) (by have := hl'.ln; have := hl'.j.l; omega)
  have hs1 := hl'.st
  have hs2 := hl'.fl
  have hs3 := hl'.ln
  have hs4 := hl'.j.l
  · exact gJ (denQ (jobL j ++ [.int .i64 (nd)] ++ devC d ++ logC l ++ [.int .i64 ((i : Int)), .int .i64 ((S.length : Int))] ++ stpL (gt S (((i : Int)) : Int).toNat) ++ [.int .i64 ((X.length : Int)), .int .i64 ((l.start) + ((X.length : Int))), .int .i64 (((l.start) + ((X.length : Int))) - (1)), .int .i64 ((l.start + l.L.length)), .int .i64 ((roomM l)), .int .i64 (((l.start + l.L.length)) - (l.start)), .int .i64 ((j.log) - (((l.start + l.L.length)) - (l.start)))]) (by kernel_rfl) [oa 0 S.length cS, .v (.slice (some ⟨5, 0, none⟩) d.n d.n), ow 7 l.L.length INF, .v (.pointer (some ⟨0, 0 + (((i : Int)) : Int).toNat * 100, none⟩)), om 9 X.length INF, ow 14 l.L.length INF] rfl [enc stpL S, enc secL d.S, enc recL l.L, enc recL X, enc recL l.L] (PL.cons (enc_plain stpL_plain _) (PL.cons (enc_plain secL_plain _) (PL.cons (enc_plain recL_plain _) (PL.cons (enc_plain recL_plain _) (PL.cons (enc_plain recL_plain _) no_rows)))))) (dG j nd S cS d l X i 0) (fun _ => sgJ ⟨[(.len 54 (.chan (some 0)), sv 29), (.bin .lss 3 (sv 28) (sv 29), .bool true), (.ixa 54 (.chan (some 0)) (sv 28), .chan (some 3)), (.bin .eql 3 (sv 30) (.int .i64 1), .bool false), (.bin .eql 3 (sv 30) (.int .i64 2), .bool false), (.bin .eql 3 (sv 30) (.int .i64 3), .bool false), (.bin .neq 2 (sv 26) (sv 26), .bool false), (.len 43 (.chan (some 4)), sv 130), (.bin .add 2 (sv 26) (sv 130), sv 131), (.bin .sub 2 (sv 131) (.int .i64 1), sv 132), (.bin .neq 2 (sv 132) (sv 27), .bool false), (.bin .geq 2 (sv 27) (sv 133), .bool false), (.bin .sub 2 (sv 133) (sv 26), sv 135), (.bin .sub 3 (sv 3) (sv 135), sv 136), (.bin .neq 3 (sv 134) (sv 136), .bool false)], [⟨56, 3, 0, 0, vA 30 100⟩], []⟩ [(22, [⟨[.pointer (some ⟨4, 0, none⟩), .agg #[sv 0, sv 1, sv 2, sv 3, sv 4], sv 5], 9, [], [⟨4, 0, true, .row 95 (.lst ([.chan (some 1)] ++ svs 6 13)) false, .row 95 (.lst ([.chan (some 1)] ++ svs 6 13)) false⟩, ⟨5, 1, true, .orow 114 1 false, .orow 114 1 false⟩], [(2, .mrow 47 3 false)], .tuple #[sv 26, .chan (some 4), .int .i64 0]⟩]), (28, [⟨[.pointer (some ⟨6, 0, none⟩)], 12, [(4, 0)], [⟨6, 2, true, .row 62 (.lst ([.pointer (some ⟨4, 0, none⟩)] ++ svs 19 9 ++ [.chan (some 2)])) false, .row 62 (.lst ([.pointer (some ⟨4, 0, none⟩)] ++ svs 19 9 ++ [.chan (some 2)])) false⟩, ⟨7, 3, true, .mrow 47 2 false, .mrow 47 2 false⟩], [], sv 26⟩]), (24, [⟨[.pointer (some ⟨6, 0, none⟩)], 12, [(4, 0)], [⟨6, 2, true, .row 62 (.lst ([.pointer (some ⟨4, 0, none⟩)] ++ svs 19 9 ++ [.chan (some 2)])) false, .row 62 (.lst ([.pointer (some ⟨4, 0, none⟩)] ++ svs 19 9 ++ [.chan (some 2)])) false⟩, ⟨7, 3, true, .mrow 47 2 false, .mrow 47 2 false⟩], [], sv 27⟩]), (19, [⟨[.pointer (some ⟨6, 0, none⟩)], 12, [(4, 0)], [⟨6, 2, true, .row 62 (.lst ([.pointer (some ⟨4, 0, none⟩)] ++ svs 19 9 ++ [.chan (some 2)])) false, .row 62 (.lst ([.pointer (some ⟨4, 0, none⟩)] ++ svs 19 9 ++ [.chan (some 2)])) false⟩, ⟨7, 3, true, .mrow 47 2 false, .mrow 47 2 false⟩], [], sv 133⟩]), (16, [⟨[.pointer (some ⟨6, 0, none⟩)], 12, [(4, 0)], [⟨6, 2, true, .row 62 (.lst ([.pointer (some ⟨4, 0, none⟩)] ++ svs 19 9 ++ [.chan (some 2)])) false, .row 62 (.lst ([.pointer (some ⟨4, 0, none⟩)] ++ svs 19 9 ++ [.chan (some 2)])) false⟩, ⟨7, 3, true, .mrow 47 2 false, .mrow 47 2 false⟩], [], sv 134⟩]), (29, [⟨[.pointer (some ⟨6, 0, none⟩)], 13, [(4, 0)], [⟨6, 2, true, .row 62 (.lst ([.pointer (some ⟨4, 0, none⟩)] ++ svs 19 9 ++ [.chan (some 2)])) false, .row 62 (.lst ([.pointer (some ⟨4, 0, none⟩)] ++ svs 19 9 ++ [.chan (some 2)])) false⟩, ⟨7, 3, true, .mrow 47 2 false, .mrow 47 2 false⟩], [(4, .row 43 (.lst [ch 5]) false), (5, .mrow 47 4 false)], .func (.func 73) #[] #[.pointer (some ⟨13, 0, none⟩)]⟩])] ⟨asLen u54 rfl (by kernel_rfl), qT (((i : Int)) < ((S.length : Int))) (by omega), asIxaM u54 z56 rfl (by omega) rfl (by omega) (by omega) rfl rfl, eF ((gt S (((i : Int)) : Int).toNat).kind) (1) (by omega), eF ((gt S (((i : Int)) : Int).toNat).kind) (2) (by omega), eF ((gt S (((i : Int)) : Int).toNat).kind) (3) (by omega), nF (l.start) (l.start) (by omega), asLen u43 rfl (by kernel_rfl), aq (.int .i64 ((l.start) + ((X.length : Int)))) (.int .i64 (IntKind.i64.wrap ((l.start) + ((X.length : Int))))) (wVi64 ((l.start) + ((X.length : Int))) (by omega) (by omega)), aq (.int .i64 (((l.start) + ((X.length : Int))) - (1))) (.int .i64 (IntKind.i64.wrap (((l.start) + ((X.length : Int))) - (1)))) (wVi64 (((l.start) + ((X.length : Int))) - (1)) (by omega) (by omega)), nF (((l.start) + ((X.length : Int))) - (1)) (l.flushed) (by omega), qF ((l.flushed) ≥ ((l.start + l.L.length))) (by omega), aq (.int .i64 (((l.start + l.L.length)) - (l.start))) (.int .i64 (IntKind.i64.wrap (((l.start + l.L.length)) - (l.start)))) (wVi64 (((l.start + l.L.length)) - (l.start)) (by omega) (by omega)), aq (.int .i64 ((j.log) - (((l.start + l.L.length)) - (l.start)))) (.int .i64 (IntKind.i64.wrap ((j.log) - (((l.start + l.L.length)) - (l.start))))) (wVi64 ((j.log) - (((l.start + l.L.length)) - (l.start))) (by omega) (by omega)), nF ((roomM l)) ((j.log) - (((l.start + l.L.length)) - (l.start))) (by omega), trivial⟩ ⟨ldE stpL_len a56 z56 (by omega) rfl rfl (by kernel_rfl), trivial⟩ trivial ⟨oe hread, oe hstart, oe hfl, oe hnext, oe hroom, oe hrec, trivial⟩) 34 [(0, 0), (1, 1), (2, 2), (3, 3), (4, 4), (5, 5), (6, 6), (7, 7), (12, 8), (10, 9), (11, 10), (9, 11), (13, 12), (14, 13)] [9] hg
end
end Go.Proofs.Ytpennfojidpmeaa
namespace Go.Proofs.Ytpennfojidpmeaa
open Go.Sx
set_option maxRecDepth 20000
theorem iter_ex {P : Program} {gf : FuncId} {lb : Array Value} {xs : Nat → Value} {C : Env → Prop} {K : Env → World → Prop} (h : ∀ E, C E → Iter P gf lb 0 xs (K E)) (hK : ∀ E W W' B, K E W → Grow B W W' → K E W') : Iter P gf lb 0 xs (fun W => ∃ E, C E ∧ K E W) := by
  intro Fe n l J Jx W hW hro hJ hJx hKf hKx hl hY hJ0
  obtain ⟨E, hC, hE⟩ := hKf _ _ hJ0
  refine (h E hC Fe n l (fun k A => J k A ∧ K E A) (fun _ _ => False) W hW hro (fun k A A' ⟨a, b⟩ hg => ⟨hJ _ _ _ a hg, hK _ _ _ _ b hg⟩) (fun _ _ _ h _ => h) (fun _ _ h => h.2) (fun _ _ h => h.elim) hl (fun k A m hk => absurd hk (Nat.not_lt_zero _)) ⟨hJ0, hE⟩).mono fun e A' ⟨h1, h2⟩ => ⟨h1, h2.imp (fun h => h.1) (fun ⟨k, hk, _⟩ => absurd hk (Nat.not_lt_zero _))⟩
theorem B128_ro (L : List Rec) : ∀ i o, (ofL (B128 L)).get i = some o → writable o = false ∧ noCtl o = true := fun i o h => by
  rw [get_ofL] at h
  have hm := lkL_mem h
  simp only [B128, List.mem_cons, List.not_mem_nil, or_false, Prod.mk.injEq] at hm
  rcases hm with ⟨_, rfl⟩ | ⟨_, rfl⟩
  · exact ⟨rfl, rfl⟩
  · cases L <;> exact ⟨rfl, rfl⟩
theorem K128_grow {L : List Rec} {E : Env} {W W' : World} {B : Nat} (h : K128 L E W) (hg : Grow B W W') : K128 L E W' := by
  have h0 : HR0 Try.prog { W with heap := #[] } (fun _ => True) E (ofL (B128 L)) W :=
    @HR.mk den0 _ _ _ _ _ _ ⟨rfl, rfl, rfl, Nat.zero_le _, fun k hk => absurd hk (Nat.not_lt_zero _)⟩ (@HR.dom den0 _ _ _ _ _ _ h) (@HR.obj den0 _ _ _ _ _ _ h) (@HR.inj den0 _ _ _ _ _ _ h) fun _ _ _ _ _ _ => .inr trivial
  exact @HR.roBase den0 Try.prog _ _ _ _ (ofL (B128 L)) (@HR.grow Try.prog _ _ _ _ _ _ den0 0 h0 (fun i o h => (B128_ro L i o h).2) (Nat.le_refl _) (hg.mono (Nat.zero_le _))) (fun i o h => (B128_ro L i o h).1)
section
variable {j : Jb} {nd : Int} {S : List Stp} {cS : Nat} {d : Dv} {l : Lo} {X : List Rec} {i : Nat}
theorem hit_recs (hL : l.L.length ≤ 1000) (jk : List Deferred) (E : Env) (w : World) (lb' : Array Value) (hlr : @LR ((dG j nd S cS d l X i 0).wj jk) E [pt 12 0] lb'.toList) (hr : @HR ((dG j nd S cS d l X i 0).wj jk) Try.prog w (wb E (ofL aG)) E (ofL aG) w) :
    ∃ Kf, Iter Try.prog 73 lb' l.L.length (fun k => .agg (recL (gt l.L k)).toArray) Kf ∧ ∀ i' E' A', i' ≤ l.L.length → E.le E' → @HR ((dG j nd S cS d l X i i').wj jk) Try.prog A' (wb E' (ofL aG)) E' (ofL aG) A' → Kf A' := by
  obtain ⟨e, he, hvs⟩ : ∃ e : EI, E 12 = some e ∧ lb'.toList = [.pointer (some ⟨e.blk, e.off + 0, none⟩)] := by
    obtain ⟨v', vs, hvs, hv, hl⟩ := @LR.cons_inv ((dG j nd S cS d l X i 0).wj jk) _ _ _ _ hlr
    have := @LR.nil_inv ((dG j nd S cS d l X i 0).wj jk) _ _ hl
    subst this
    cases hv with
    | ptr h => exact ⟨_, h, hvs⟩
  have told : ∀ i' E' A', @HR ((dG j nd S cS d l X i i').wj jk) Try.prog A' (wb E' (ofL aG)) E' (ofL aG) A' → K128 l.L (envOf [(12, 1), (13, 2)] E') A' := fun i' E' A' h =>
    @HR.roBase den0 Try.prog _ _ _ _ (ofL (B128 l.L)) (@HR.cv Try.prog A' (wb E' (ofL aG)) E' (ofL aG) A' ((dG j nd S cS d l X i i').wj jk) h [(12, 1), (13, 2)] [12, 13] (B128 l.L) (by kernel_rfl) (by kernel_rfl)) (fun i o h => (B128_ro l.L i o h).1)
  have hlb : ∀ E1 : Env, E1 1 = some e → ∀ (d : Den) (E2 : Env), (envTo (idR A128) E1).le E2 → @LR d E2 [pt 1 0] lb'.toList := fun E1 h1 d E2 hle => by
    rw [hvs]
    exact @LR.cons d _ _ _ _ _ (@VR.ptr d _ _ _ _ (hle _ _ h1)) (@LR.nil d _)
  by_cases h0 : l.L = []
  · refine ⟨fun W => ∃ E1 : Env, E1 1 = some e ∧ K128 l.L E1 W, ?_, fun i' E' A' _ hle h => ⟨envOf [(12, 1), (13, 2)] E', (hle 12 e he : E' 12 = some e), told i' E' A' h⟩⟩
    have hl0 : l.L.length = 0 := by rw [h0]; rfl
    rw [hl0]
    refine iter_ex (fun E1 h1 => ?_) (fun E W W' B h hg => K128_grow h hg)
    have := iter73 (L := l.L) (by omega) (E0 := E1) (hlb E1 h1)
    rw [hl0] at this
    exact this
  · refine ⟨K128 l.L (envOf [(12, 1), (13, 2)] E), iter73 hL (hlb _ he), fun i' E' A' _ hle h => ?_⟩
    have h13 : ∃ e2, E 13 = some e2 := by
      have hob := @HR.obj ((dG j nd S cS d l X i 0).wj jk) _ _ _ _ _ _ hr 13 (.mrow 47 4 false) (by kernel_rfl)
      rcases hob with ⟨_, hrow⟩ | ⟨e2, _, h2, _⟩
      · exfalso
        have hrow : enc recL l.L = [] := hrow
        have := enc_len recL_len l.L
        rw [hrow] at this
        simp at this
        exact h0 (List.eq_nil_of_length_eq_zero (by omega))
      · exact ⟨e2, h2⟩
    obtain ⟨e2, he2⟩ := h13
    have heq : envOf [(12, 1), (13, 2)] E' = envOf [(12, 1), (13, 2)] E := by
      funext b
      unfold envOf
      cases hb : lkR [(12, 1), (13, 2)] b with
      | none => rfl
      | some a =>
        have := lkR_mem hb
        simp only [List.mem_cons, List.not_mem_nil, or_false, Prod.mk.injEq] at this
        rcases this with ⟨rfl, _⟩ | ⟨rfl, _⟩
        · exact (hle _ _ he).trans he.symm
        · exact (hle _ _ he2).trans he2.symm
    rw [← heq]
    exact told i' E' A' h
theorem rd_range (hL : l.L.length ≤ 1000) (hX : X.length ≤ l.L.length) (hb : 0 ≤ l.start ∧ l.start ≤ 1000000) (hXe : ∀ k, k < X.length → gt X k = gt l.L k) (hr : ∀ k, k < l.L.length → (gt l.L k).lsn = l.start + k ∧ (gt l.L k).node = nd ∧ (gt l.L k).epoch = 1)
    (hg : GoodJ (dG j nd S cS d l X i l.L.length) Try.prog 5 (.bool true) (headJ (rng Try.prog 5 0).2.2.2.2 .normal fG 171 15 aG)) : GG j nd S cS d l X i := by
  refine GoodJ.range (P := Try.prog) mixed (g := 5) (dK := fun k => dG j nd S cS d l X i k) (N := l.L.length) (xs := fun k => .agg (recL (gt l.L k)).toArray) (A := aG) (fv := fG) (n := 171) (c := 15) (gf := 73) (lbA := #[pt 12 0]) (by kernel_rfl) (by kernel_rfl) (by kernel_rfl) (by kernel_rfl) (by kernel_rfl) (by kernel_rfl) (fun k => clean_agg (recL_plain _))
    (fun k _ => by kernel_rfl) (by kernel_rfl) (fun k _ => by kernel_rfl) (by kernel_rfl) (fun hN k T jj h => ?_) (fun jk E w lb' h1 h2 => hit_recs hL jk E w lb' h1 h2) (fun k hk => ?_) hg
  · have hne : enc recL l.L ≠ [] := fun h => by
      have := enc_len recL_len l.L
      rw [h] at this
      simp at this
      omega
    have hm := lkL_mem h
    simp only [aG, aH, List.cons_append, List.nil_append, List.mem_cons, List.not_mem_nil, or_false, Prod.mk.injEq, AObj.mrow.injEq, reduceCtorEq, and_false, false_or, Bool.false_eq_true] at hm
    rcases hm with ⟨_, _, rfl, _⟩ | ⟨_, _, rfl, _⟩
    · exact hne
    · exact hne
  · by_cases hk2 : k < X.length
    · have e : (((k : Int)) : Int).toNat = k := by omega
      exact rd_y hk2 (by omega) hb (by rw [e, hXe k hk2]; exact eqR_refl _) (hr k hk)
    · exact rd_n (by omega) (by omega) hb (hr k hk)
end
end Go.Proofs.Ytpennfojidpmeaa
namespace Go.Proofs.Ytpennfojidpmeaa
open Go.Sx
set_option maxRecDepth 20000
structure EInv (j : Jb) (nd : Int) (d : Dv) (l : Lo) (k : Nat) (b : Int) : Prop where
  inv : Inv d l
  j : l.j = j
  n : l.node = nd
  e : l.epoch = 1
  x : l.start + l.L.length ≤ 1 + k
  dn : d.done ≤ b
  ep : ∀ r ∈ l.L, r.epoch = 1
theorem EInv.mono {j : Jb} {nd : Int} {d : Dv} {l : Lo} {k k' : Nat} {b b' : Int} (h : EInv j nd d l k b) (hk : k ≤ k') (hb : b ≤ b') : EInv j nd d l k' b' :=
  ⟨h.inv, h.j, h.n, h.e, by have := h.x; omega, by have := h.dn; omega, h.ep⟩
theorem ap_R {j : Jb} {nd : Int} {d : Dv} {l : Lo} {k : Nat} {b : Int} (h : EInv j nd d l k b) {p : Int} {v : Ver} (ha : ApOK l p v) (hr : roomM l ≠ 0) (hv : Good v) : EInv j nd d (apM l p v) (k + 1) b := by
  have hx := h.x
  refine ⟨append_inv h.inv ha hr hv.1 hv.2, h.j, h.n, h.e, ?_, h.dn, fun r hr => ?_⟩
  · show l.start + ((l.L ++ [_]).length : Int) ≤ 1 + ((k + 1 : Nat) : Int)
    simp only [List.length_append, List.length_singleton]; omega
  · rcases List.mem_append.1 (show r ∈ l.L ++ [_] from hr) with hr | hr
    · exact h.ep r hr
    · rw [List.mem_singleton.1 hr]; exact h.e
theorem fl_R {j : Jb} {nd : Int} {d : Dv} {l : Lo} {k : Nat} {b : Int} (h : EInv j nd d l k b) (hb : b ≤ 1000000) : EInv j nd (flW l d) (flL l) k (b + 128) := by
  have hk := kF_le h.inv.hl
  have hln := h.inv.hl.ln
  have hlg := h.inv.hl.j.l
  have hdn := h.dn
  have hf := flush_inv (l.L.length - kF l) h.inv (by omega) (by omega)
  rw [flW_eq]
  exact ⟨hf.1, h.j, h.n, h.e, h.x, by have := hf.2; omega, h.ep⟩
theorem cut_R {j : Jb} {nd : Int} {d : Dv} {l : Lo} {k : Nat} {b : Int} (h : EInv j nd d l k b) (hb : b ≤ 1000000) {v : Int} (hv : l.start ≤ v ∧ v ≤ l.flushed + 1) : EInv j nd (write1 d (headAt l.j l.node) (headS v l.epoch)) (cutM l v) k (b + 1) := by
  have hdn := h.dn
  have hfl := h.inv.hl.fl
  have hx := h.x
  have hep : ∀ r ∈ l.L.drop (v - l.start).toNat, r.epoch = 1 := fun r hr => h.ep r (List.mem_of_mem_drop hr)
  have hci := cut_inv h.inv hv (fun r hr => (hep r hr).trans h.e.symm) (by omega)
  have hw := (write1_ok h.inv.hd h.inv.left (headAt l.j l.node) (headS_byte v l.epoch) (by omega)).2.2
  refine ⟨hci, h.j, h.n, h.e, ?_, by omega, hep⟩
  show v + ((l.L.drop (v - l.start).toNat).length : Int) ≤ _
  rw [List.length_drop]
  omega
section
variable {j : Jb} {nd : Int} {S : List Stp} {cS : Nat} {d : Dv} {l : Lo} {i : Nat}
theorem take_gt {L : List Rec} {n k : Nat} (h : k < (L.take n).length) : gt (L.take n) k = gt L k := by
  rw [List.length_take] at h
  unfold gt
  rw [List.getElem?_take, if_pos (by omega)]
theorem fin_it {k : Nat} {b : Int} (h : EInv j nd d l k b) (hk : k ≤ 1000) (hi : i < 1000) (hg : GH j nd S cS d l (i + 1)) : GG j nd S cS d l (l.L.take (kF l)) i := by
  have hl := h.inv.hl
  have hln := hl.ln
  have hlg := hl.j.l
  have hst := hl.st
  have hx := h.x
  refine rd_range (by omega) (by rw [List.length_take]; omega) (by omega) (fun k hk => take_gt hk) (fun k hk => ?_) (rd_post hl hi (by omega) hg)
  have hm := gt_mem (L := l.L) hk
  exact ⟨hl.lsn k hk, (h.inv.own _ hm).2.1.trans h.n, h.ep _ hm⟩
structure AfterP (j : Jb) (nd : Int) (d : Dv) (l : Lo) : Prop where
  hl : LOK l
  hread : Ctr Try.prog 22 [pt 0 0, jobV j, iv nd] (devH d true) (.tuple #[iv l.start, mSl 2 (l.L.take (kF l)).length INF 0, iv 0]) [(2, rowOr 47 (enc recL (l.L.take (kF l))) false)]
  hX : ((l.L.take (kF l)).length : Int) = l.flushed - l.start + 1
  hb : l.start + l.L.length ≤ 1000000
  hrm : roomM l = j.log - l.L.length
  hjl : 2 ≤ j.log ∧ j.log ≤ 64
theorem after_p {k : Nat} {b : Int} (h : EInv j nd d l k b) (hk : k ≤ 1000) : AfterP j nd d l := by
  have hl := h.inv.hl
  have hkf := kF_le hl
  have hx := h.x
  refine ⟨hl, ?_, by rw [List.length_take]; omega, by omega, ?_, by have := hl.j.l; rw [h.j] at this; exact this⟩
  · obtain ⟨e', q1, q2, q3, _, q5⟩ := h.inv.head
    have hr := read_ok h.inv.hd hl.j h.inv.hs hl.nd hl.st ⟨q2, q3⟩ q1
    rw [read_inv h.inv q5, h.j, h.n] at hr
    exact hr
  · unfold roomM
    rw [if_neg (by omega), h.j]
theorem rd_all (hS : S.length ≤ 60) (hgood : ∀ s ∈ S, Good s.v) : ∀ (m i : Nat) (d : Dv) (l : Lo), i + m = S.length → EInv j nd d l i (200 * i + 100) → GH j nd S cS d l i
  | 0, i, d, l, hm, h => rd_end (by omega)
  | m + 1, i, d, l, hm, h => by
    have hl := h.inv.hl
    have hdn := h.dn
    have hi : i < S.length := by omega
    have hgs : Good (gt S i).v := hgood _ (gt_mem hi)
    have go : ∀ (d' : Dv) (l' : Lo), EInv j nd d' l' (i + 1) (200 * ((i + 1 : Nat) : Int) + 100) → GG j nd S cS d' l' (l'.L.take (kF l')) i ∧ AfterP j nd d' l' := fun d' l' h' =>
      ⟨fin_it h' (by omega) (by omega) (rd_all hS hgood m (i + 1) d' l' (by omega) h'), after_p h' (by omega)⟩
    have hstay := go d l (h.mono (by omega) (by omega))
    by_cases h1 : (gt S i).kind = 1
    · by_cases ha : ApOK l (gt S i).page (gt S i).v
      · by_cases hr : roomM l = 0
        · obtain ⟨g, a⟩ := hstay
          exact rd_f hi hS h1 (append_full hl ha hr) a.hl a.hread a.hX a.hb a.hrm a.hjl g
        · obtain ⟨g, a⟩ := go d _ ((ap_R h ha hr hgs).mono (Nat.le_refl _) (by omega))
          exact rd_a hi hS h1 (append_E hl ha hr) a.hl a.hread a.hX a.hb a.hrm a.hjl g
      · obtain ⟨g, a⟩ := hstay
        exact rd_b hi hS h1 (append_arg hl ha) a.hl a.hread a.hX a.hb a.hrm a.hjl g
    · by_cases h2 : (gt S i).kind = 2
      · have hlg := hl.j.l
        obtain ⟨g, a⟩ := go _ _ ((fl_R h (by omega)).mono (by omega) (by omega))
        exact rd_l hi hS h2 (flush_E hl h.inv.hd h.inv.left (by omega) h.inv.hs h.inv.hnd (fun _ => h.inv.he)) a.hl a.hread a.hX a.hb a.hrm a.hjl g
      · by_cases h3 : (gt S i).kind = 3
        · by_cases hv : l.start ≤ (gt S i).n ∧ (gt S i).n ≤ l.flushed + 1
          · obtain ⟨g, a⟩ := go _ _ ((cut_R h (by omega) hv).mono (by omega) (by omega))
            exact rd_c hi hS h3 (cut_E hl h.inv.hd hv h.inv.hs h.inv.hnd h.inv.left h.inv.he) a.hl a.hread a.hX a.hb a.hrm a.hjl g
          · obtain ⟨g, a⟩ := hstay
            exact rd_x hi hS h3 (cut_arg hl hv) a.hl a.hread a.hX a.hb a.hrm a.hjl g
        · obtain ⟨g, a⟩ := hstay
          exact rd_o hi hS ⟨h1, h2, h3⟩ a.hl a.hread a.hX a.hb a.hrm a.hjl g
end
theorem reads_ctr {j : Jb} {nd : Int} {S : List Stp} {cS : Nat} (hgood : ∀ s ∈ S, Good s.v) : CRd j nd S cS := by
  by_cases hj : MayJ j
  · by_cases hg : 0 ≤ nd ∧ nd < j.nodes ∧ S.length ≤ 60
    · obtain ⟨g1, g2, g3⟩ := hg
      have hjn := hj.n
      refine rd_start ⟨g1, g2⟩ g3 (jmayR_ctr hj) (new_ctr hj) (open_new hj ⟨g1, g2⟩) ?_
      refine rd_all g3 hgood S.length 0 _ _ (Nat.zero_add _) ⟨new_inv hj ⟨g1, g2⟩, rfl, rfl, rfl, by show (1 : Int) + (([] : List Rec).length : Int) ≤ _; simp, ?_, fun r hr => by cases hr⟩
      show ((j.nodes.toNat : Nat) : Int) ≤ _
      omega
    · exact rd_guard (jmayR_ctr hj) hg
  · exact rd_nojob (jmayR_f hj)
end Go.Proofs.Ytpennfojidpmeaa
namespace Go.Proofs.Ytpennfojidpmeaa
open Go.Sx Go.Deep Go.WideShapes
set_option maxRecDepth 20000
theorem cut_100 {cs : List Value} (h : cs.length = 100) : cs = (cs.drop 0).take 1 ++ ((cs.drop 1).take 1 ++ ((cs.drop 2).take 97 ++ (cs.drop 99).take 1)) := by
  have e3 : (cs.drop 99).take 1 = (cs.drop 2).drop 97 := by rw [List.drop_drop, List.take_of_length_le (by rw [List.length_drop]; omega)]
  have e2 : cs.drop 2 = (cs.drop 1).drop 1 := by rw [List.drop_drop]
  have e1 : cs.drop 1 = (cs.drop 0).drop 1 := by rw [List.drop_drop]
  rw [e3, List.take_append_drop, e2, List.take_append_drop, e1, List.take_append_drop, List.drop_zero]
section
variable {H : Type} {en : TypeId × Value → H} {W : World} {base : Nat} {sp : Nat → Bool} {hd : Bool} {fuel : Nat} {cs : List Value} {x : DataW H × List MemPlace}
theorem stp_of (h : DataW.trod en Try.prog W base sp hd fuel 56 cs = some x) : ∃ s : Stp, Good s.v ∧ cs = stpL s := by
  obtain ⟨ys, n, _, _, hlen, hyl, hf⟩ := DataW.trod_struct Try.underlying56 h
  have hlen : cs.length = 100 := hlen.trans (by kernel_rfl)
  have hyl : ys.length = 4 := hyl
  obtain ⟨k0, e0, _⟩ := DataW.trod_int Try.underlying3 ((hf 0 _ rfl).trans (List.getElem?_eq_getElem (by omega)))
  obtain ⟨k1, e1, _⟩ := DataW.trod_int Try.underlying3 ((hf 1 _ rfl).trans (List.getElem?_eq_getElem (by omega)))
  obtain ⟨v, gv, e2⟩ := ver_of ((hf 2 _ rfl).trans (List.getElem?_eq_getElem (by omega)))
  obtain ⟨k3, e3, _⟩ := DataW.trod_int Try.underlying2 ((hf 3 _ rfl).trans (List.getElem?_eq_getElem (by omega)))
  have e0 : (cs.drop 0).take 1 = [.int .i64 k0] := e0
  have e1 : (cs.drop 1).take 1 = [.int .i64 k1] := e1
  have e2 : (cs.drop 2).take 97 = verV v := e2
  have e3 : (cs.drop 99).take 1 = [.int .i64 k3] := e3
  refine ⟨⟨k0, k1, v, k3⟩, gv, ?_⟩
  rw [cut_100 hlen, e0, e1, e2, e3]
  rfl
end
theorem stps_of {f : Nat → Option Value} : ∀ n : Nat, (∀ i, i < n → ∃ x : Stp, Good x.v ∧ ∀ j v, (stpL x)[j]? = some v → f (i * 100 + j) = some v) → ∃ l : List Stp, l.length = n ∧ (∀ x ∈ l, Good x.v) ∧ ∀ k v, (enc stpL l)[k]? = some v → f k = some v
  | 0, _ => ⟨[], rfl, (fun _ h => by cases h), (fun k v h => by simp [enc] at h)⟩
  | n + 1, h => by
    obtain ⟨l, hl, hgd, hg⟩ := stps_of n fun i hi => h i (by omega)
    obtain ⟨x, hxg, hx⟩ := h n (by omega)
    refine ⟨l ++ [x], by simp [hl], fun y hy => ?_, fun k v hk => ?_⟩
    · rcases List.mem_append.1 hy with hy | hy
      · exact hgd y hy
      · rw [List.mem_singleton.1 hy]; exact hxg
    · have hlen := enc_len (f := stpL) stpL_len l
      have e : enc stpL [x] = stpL x := by simp [enc]
      rw [enc_app, e] at hk
      by_cases hkn : k < (enc stpL l).length
      · rw [List.getElem?_append_left hkn] at hk; exact hg k v hk
      · rw [List.getElem?_append_right (by omega)] at hk
        have := hx _ v hk
        rw [show n * 100 + (k - (enc stpL l).length) = k from by omega] at this
        exact this
def RpS (w : World) (k : Nat) (v : Value) (L : List Stp) (cp : Nat) (e : Option EI) : Prop :=
  (L = [] ∧ e = none ∧ ∃ b c, v = .slice b 0 c) ∨
  (1 ≤ L.length ∧ ∃ x : EI, e = some x ∧ (∃ cells T fz, w.heap[x.blk]? = some (Obj.cells cells T fz) ∧ ∀ i u, (enc stpL L)[i]? = some u → cells[x.off + i]? = some u) ∧ ∀ E : Env, E k = some x → VR0 E (.slice (some ⟨k, 0, none⟩) L.length cp) v)
theorem RpS.val {w : World} {k : Nat} {v : Value} {L : List Stp} {cp : Nat} {e : Option EI} (h : RpS w k v L cp e) {E : Env} (hE : E k = e) : VR0 E (mSl k L.length cp 2) v := by
  rcases h with ⟨rfl, rfl, b, c, rfl⟩ | ⟨h1, x, rfl, _, h2⟩
  · exact @VR.anS den0 E b c
  · rw [mSl_pos h1]; exact h2 E hE
theorem rps_of {H : Type} {en : TypeId × Value → H} {W : World} {v : Value} {d : DataW H} {p : List MemPlace} {base : Nat} (k : Nat) (hv : Value.okWide Try.prog W .any base 54 v) (hd : DataW.Trod en Try.prog W 0 (fun _ => true) true 54 v d p) :
    ∃ (L : List Stp) (cp : Nat) (e : Option EI), (∀ x ∈ L, Good x.v) ∧ RpS W k v L cp e := by
  obtain ⟨a0, len0, cap0, rfl⟩ := okWide_slice Try.underlying54 hv
  obtain ⟨fuel, hf⟩ := hd
  have htr : DataW.trod en Try.prog W 0 (fun _ => true) true fuel 54 [.slice a0 len0 cap0] = some (d, p) := hf
  rcases open_slice Try.underlying54 htr with ⟨h1, _⟩ | ⟨a, len, cap, m, n, D, Pl, h1, _, hl, _, hm, _, hi⟩
  · cases h1
    exact ⟨[], 0, none, nofun, .inl ⟨rfl, rfl, _, _, rfl⟩⟩
  · cases h1
    rw [if_pos rfl] at hm
    subst hm
    by_cases h0 : len0 = 0
    · subst h0
      exact ⟨[], 0, none, nofun, .inl ⟨rfl, rfl, _, _, rfl⟩⟩
    have hC : Try.prog.cellsOf 56 = 100 := by kernel_rfl
    have hel : ∀ i, i < m → ∃ x : Stp, Good x.v ∧ ∀ j u, (stpL x)[j]? = some u → W.cell? (a.add (i * 100 + j)) = some u := fun i him => by
      obtain ⟨cs', hc, ht'⟩ := hi i him
      rw [hC] at hc
      obtain ⟨v, hg, rfl⟩ := stp_of ht'
      obtain ⟨_, hcl, hat⟩ := World.cells?_some hc
      refine ⟨v, hg, fun j u hj => ?_⟩
      have hjl : j < 100 := by
        have := (List.getElem?_eq_some_iff.1 hj).1
        rw [stpL_len] at this
        exact this
      rw [← Go.Deep.add_add, hat j hjl]
      exact hj
    obtain ⟨l, hn, hgd, hg⟩ := stps_of (f := fun k => W.cell? (a.add k)) len0 fun i hi => hel i (by omega)
    subst hn
    have hg0 : W.cell? (a.add 0) = some (.int .i64 (gt l 0).kind) := hg 0 _ (by
      cases l with
      | nil => exact absurd rfl h0
      | cons y t => rfl)
    have a0' : a.add 0 = a := by cases a; rfl
    rw [a0'] at hg0
    obtain ⟨hs, cells, T, fz, hb, _⟩ := cell_at hg0
    refine ⟨l, if m < HALF then m else INF, some ⟨a.block, a.off, m⟩, hgd, .inr ⟨by omega, _, rfl, ⟨cells, T, fz, hb, fun i u hu => ?_⟩, fun E hE => ?_⟩⟩
    · have h1 := hg i u hu
      rw [add_none hs] at h1
      obtain ⟨_, cells2, T2, fz2, hb2, h2⟩ := cell_at h1
      simp only at hb2 h2
      rw [hb] at hb2
      cases hb2
      exact h2
    · have hcap := fit_cap ⟨a.block, a.off, m⟩ (cap := m) rfl
      have := @VR.sl den0 E k 0 l.length (if m < HALF then m else INF) ⟨a.block, a.off, m⟩ a hE (by rw [hcap]; exact hl) (.inl (by cases a; simp only at hs; subst hs; rfl))
      rw [hcap] at this
      exact this
theorem call_s {w : World} {v2 x0 x1 : Value} {L : List Stp} {c1 : Nat} {e1 : Option EI} {g : FuncId} (h1 : RpS w 0 v2 L c1 e1) (p0 : cleanB x0 = true) (p1 : cleanB x1 = true)
    (hc : Ctr Try.prog g [x0, x1, mSl 0 L.length c1 2] [(0, rowOr 56 (enc stpL L) true)] (.bool true) []) :
    Calls Try.prog g #[x0, x1, v2] w fun e w' => e = .returned (.bool true) ∧ Go.RowKit.Below w.heap.size w w' := by
  let E : Env := fun i => if i = 0 then e1 else none
  let A : HL := [(0, rowOr 56 (enc stpL L) true)]
  have hget : ∀ {i : Nat} {o : AObj}, (ofL A).get i = some o → (i = 0 ∧ o = rowOr 56 (enc stpL L) true) := fun {i o} h => by
    rw [get_ofL] at h
    have := lkL_mem h
    simp only [A, List.mem_cons, List.not_mem_nil, or_false, Prod.mk.injEq] at this
    exact this
  have hro : ∀ {i : Nat} {o : AObj}, (ofL A).get i = some o → writable o = false := fun h => by
    obtain ⟨_, rfl⟩ := hget h
    exact (rowOr_live _ _ _).2
  have pl : ∀ {v : Value} {k : Nat}, (enc stpL L)[k]? = some v → plainS v = true := fun {v k} hk => List.all_eq_true.1 (enc_plain stpL_plain L) v (List.mem_of_getElem? hk)
  have hne : 1 ≤ L.length → enc stpL L ≠ [] := fun h hh => by
    have := enc_len (f := stpL) stpL_len L
    rw [hh] at this
    simp at this
    omega
  have hrow : HR0 Try.prog w (fun _ => False) E (ofL A) w := by
    refine @HR.mk den0 _ _ _ _ _ _ ⟨rfl, rfl, rfl, Nat.le_refl _, fun _ _ _ => rfl⟩ (fun i e h => ?_) (fun i o h => ?_) (fun i j o p x y hne hi hj hlo hlp hw hx hy => ?_) (fun i o e hi hw _ => ?_)
    · simp only [E] at h
      split at h
      · rename_i hi; subst hi; rw [get_ofL]; exact fun h => by cases h
      · cases h
    · obtain ⟨rfl, rfl⟩ := hget h
      rcases h1 with ⟨rfl, rfl, _⟩ | ⟨g1, x, rfl, ⟨cells, T, fz, hb, hg⟩, _⟩
      · exact .inl ⟨rfl, rfl⟩
      · rw [rowOr_pos (hne g1)]
        refine ⟨x, cells, rfl, ⟨T, fz, hb⟩, nofun, fun k v hk => ?_⟩
        rw [get_lst] at hk
        have hpv := pl hk
        exact ⟨v, hg k v hk, @VR.cleanS den0 _ _ (by cases v <;> first | rfl | (simp [plainS] at hpv)), by cases v <;> first | rfl | (simp [plainS] at hpv)⟩
    · exfalso
      have q1 := hro hi
      have q2 := hro hj
      rcases hw with hw | hw
      · rw [q1] at hw; cases hw
      · rw [q2] at hw; cases hw
    · rw [hro hi] at hw; cases hw
  have hargs : LR0 E [x0, x1, mSl 0 L.length c1 2] [x0, x1, v2] :=
    @LR.cons den0 E _ _ _ _ (VR0.clean p0) (@LR.cons den0 E _ _ _ _ (VR0.clean p1) (@LR.cons den0 E _ _ _ _ (h1.val rfl) (@LR.nil den0 E)))
  have := hc.2 w (fun _ => False) E [x0, x1, v2] hrow hargs Fence.wide 0 ⟨fun _ => trivial, rfl⟩
  exact (callsIn_wide.1 this).mono fun e w' ⟨v', E', h1, _, h3, h4⟩ => by
    cases h4
    exact ⟨h1, (@HR.keeps den0 _ _ _ _ _ _ h3).below⟩
end Go.Proofs.Ytpennfojidpmeaa

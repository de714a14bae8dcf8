import Derived.Test.YtpennfojidpmeaaQi
namespace Go.Proofs.Ytpennfojidpmeaa
open Go.Sx
set_option maxRecDepth 20000
structure Dv where
  n : Nat
  S : List Sec
  e : Nat → Int
  nd : Int
  cut : Bool
  left : Int
  lost : Bool
  done : Int
structure DOK (d : Dv) : Prop where
  len : d.S.length = d.n
  nb : 1 ≤ d.n ∧ d.n ≤ 4096
  nd : 1 ≤ d.nd ∧ d.nd ≤ 8
  ep : ∀ i, 0 ≤ d.e i ∧ d.e i ≤ 2147483647
  dn : 0 ≤ d.done ∧ d.done ≤ 1000000000
  by' : ∀ s ∈ d.S, Byte s
abbrev ch (i : Nat) : Value := .chan (some i)
def upd {α : Type} (e : Nat → α) (i : Nat) (x : α) : Nat → α := fun j => if j = i then x else e j
def epC (e : Nat → Int) : List Value := [iv (e 0), iv (e 1), iv (e 2), iv (e 3), iv (e 4), iv (e 5), iv (e 6), iv (e 7)]
def devC (d : Dv) : List Value := epC d.e ++ [iv d.nd, .bool d.cut, iv d.left, .bool d.lost, iv d.done]
def secSl (n : Nat) : Value := .slice (some ⟨1, 0, none⟩) n n
def devL (d : Dv) : List Value := secSl d.n :: devC d
def devH (d : Dv) (ro : Bool) : HL := [(0, .row 95 (.lst (devL d)) ro), (1, .row 114 (.lst (enc secL d.S)) ro)]
theorem dev_ep (d : Dv) {n : Nat} (hn : n < 8) : (secSl d.n :: epC d.e)[1 + n * 1]? = some (iv (d.e n)) := by
  match n with
  | 0 => rfl | 1 => rfl | 2 => rfl | 3 => rfl | 4 => rfl | 5 => rfl | 6 => rfl | 7 => rfl
  | n + 8 => exact absurd hn (by omega)
theorem st_ep (d : Dv) (tl : List Value) {x : Int} {n : Nat} (hn : n < 8) : StC Try.prog 2 (.pointer (some ⟨0, 1 + n * 1, none⟩)) (iv x) [(0, .row 95 (.lst (secSl d.n :: (epC d.e ++ tl))) false), (1, .dead)] [(0, .row 95 (.lst (secSl d.n :: (epC (upd d.e n x) ++ tl))) false), (1, .dead)] := by
  have h := StC.cell (P := Try.prog) (t := 2) (T := 95) (l := secSl d.n :: (epC d.e ++ tl)) (k := 1 + n * 1) (v := iv x) [(1, .dead)] z2 (by simp [epC]; omega) rfl rfl
  have e : (secSl d.n :: (epC d.e ++ tl)).set (1 + n * 1) (iv x) = secSl d.n :: (epC (upd d.e n x) ++ tl) := by
    match n with
    | 0 => rfl | 1 => rfl | 2 => rfl | 3 => rfl | 4 => rfl | 5 => rfl | 6 => rfl | 7 => rfl
    | n + 8 => exact absurd hn (by omega)
  rw [e] at h
  exact h
theorem dread_ctr {d : Dv} (hd : DOK d) {i : Int} (h1 : 0 ≤ i) (h2 : i < d.n) : Ctr Try.prog 103 [pt 0 0, iv i] (devH d true) (.tuple #[secV (gt d.S i.toNat), iv 0]) [] := by
  have ⟨g1, g2⟩ := hd.nd
  have g3 := hd.len
  have g4 := hd.nb
  have g5 := hd.dn
  exact pth (denQ ([.int .i64 (i)] ++ devC d ++ [.int .i64 (d.n)] ++ secL (gt d.S ((i) : Int).toNat)) rfl [.v (.slice (some ⟨1, 0, none⟩) d.n d.n), .v (.pointer (some ⟨1, 0 + ((i) : Int).toNat * 64, none⟩))] rfl [enc secL d.S] (PL.cons (enc_plain secL_plain _) no_rows)) ⟨[(.bin .gtr 3 (sv 9) (.int .i64 0), .bool true), (.bin .lss 3 (sv 0) (.int .i64 0), .bool false), (.len 92 (.chan (some 0)), sv 14), (.bin .geq 3 (sv 0) (sv 14), .bool false), (.ixa 92 (.chan (some 0)) (sv 0), .chan (some 1))], [⟨114, 1, 1, 0, vA 15 64⟩], []⟩ [] ⟨qT ((d.nd) > (0)) (by omega), qF ((i) < (0)) (by omega), asLen u92 rfl (by kernel_rfl), qF ((i) ≥ (d.n)) (by omega), asIxa u92 z114 rfl rfl (by omega) (by omega) rfl rfl, trivial⟩ ⟨ldE secL_len a114 z114 (by omega) rfl rfl (by kernel_rfl), trivial⟩ trivial trivial 2 ([(0, .row 95 (.lst (ch 0 :: svs 1 13)) true), (1, .orow 114 0 true)]) [pt 0 0, sv 0] []
theorem dup_ctr {d : Dv} (hd : DOK d) {n : Int} (hn : 0 ≤ n ∧ n < d.nd) (hc : d.cut = false) (hm : d.e n.toNat < 2147483647) : Ctr Try.prog 27 [pt 0 0, iv n] (devH d false) (.tuple #[iv (d.e n.toNat + 1), iv 0]) (devH { d with e := upd d.e n.toNat (d.e n.toNat + 1), done := d.done + 1 } false) := by
  have ⟨g1, g2⟩ := hd.nd
  have g3 := hd.len
  have g4 := hd.nb
  have g5 := hd.dn
  have ep0 := hd.ep n.toNat
  exact pth (denQ ([.int .i64 (n)] ++ devC d ++ [.int .i64 (d.e ((n) : Int).toNat), .int .i64 ((d.done) + (1)), .int .i64 ((d.e ((n) : Int).toNat) + (1))] ++ epC (upd d.e ((n) : Int).toNat ((d.e ((n) : Int).toNat) + (1)))) rfl [.v (.slice (some ⟨1, 0, none⟩) d.n d.n), .v (.pointer (some ⟨0, 1 + ((n) : Int).toNat * 1, none⟩))] rfl [enc secL d.S] (PL.cons (enc_plain secL_plain _) no_rows)) ⟨[(.bin .gtr 3 (sv 9) (.int .i64 0), .bool true), (.bin .geq 3 (sv 0) (.int .i64 0), .bool true), (.bin .lss 3 (sv 0) (sv 9), .bool true), (.ixa 93 (.pointer (some ⟨0, 1, none⟩)) (sv 0), .chan (some 1)), (.bin .eql 2 (sv 14) (.int .i64 2147483647), .bool false), (.test .f64 10, .bool false), (.bin .add 2 (sv 13) (.int .i64 1), sv 15), (.bin .add 2 (sv 14) (.int .i64 1), sv 16)], [], [([2, 1000000], ⟨[.chan (some 1)], 4, [], [⟨0, 0, true, .row 95 (.lst ([.chan (some 0)] ++ svs 1 8)) false, .row 95 (.lst ([.chan (some 0)] ++ svs 1 8)) false⟩, ⟨1, 1, true, .orow 114 0 false, .orow 114 0 false⟩], [], sv 14⟩), ([2, 1000001], ⟨[.chan (some 1), sv 16], 4, [(1, 1)], [⟨0, 0, false, .row 95 (.lst ([.chan (some 0)] ++ svs 1 12 ++ [sv 15])) false, .row 95 (.lst ([.chan (some 0)] ++ svs 17 8 ++ svs 9 4 ++ [sv 15])) false⟩], [], .bool false⟩)]⟩ [] ⟨qT ((d.nd) > (0)) (by omega), qT ((n) ≥ (0)) (by omega), qT ((n) < (d.nd)) (by omega), asIxArr u93 z2 rfl (by omega) (by omega) rfl rfl, eF (d.e ((n) : Int).toNat) (2147483647) (by omega), tB (hc), aq (.int .i64 ((d.done) + (1))) (.int .i64 (IntKind.i64.wrap ((d.done) + (1)))) (wVi64 ((d.done) + (1)) (by omega) (by omega)), aq (.int .i64 ((d.e ((n) : Int).toNat) + (1))) (.int .i64 (IntKind.i64.wrap ((d.e ((n) : Int).toNat) + (1)))) (wVi64 ((d.e ((n) : Int).toNat) + (1)) (by omega) (by omega)), trivial⟩ trivial ⟨ld0 (LdC.cell (T := 95) (ro := true) [(1, .row 114 (.lst (enc secL d.S)) true)] a2 (dev_ep d (n := ((n) : Int).toNat) (by omega))), st (st_ep d [.int .i64 (d.nd), .bool (d.cut), .int .i64 (d.left), .bool (d.lost), .int .i64 ((d.done) + (1))] (x := ((d.e ((n) : Int).toNat) + (1))) (n := ((n) : Int).toNat) (by omega)), trivial⟩ trivial 2 ([(0, .row 95 (.lst (ch 0 :: svs 1 13)) false), (1, .orow 114 0 false)]) [pt 0 0, sv 0] [(0, 0), (1, 1)]
theorem dwrite1A {d : Dv} (hd : DOK d) {n ep p : Int} (hn : 0 ≤ n ∧ n < d.nd) (hp : 0 ≤ p ∧ p + 1 ≤ d.n) (hc : d.cut = false) (he : ep = d.e n.toNat) (a : Sec) : Ctr Try.prog 65 [pt 0 0, iv n, iv ep, iv p, .slice (some ⟨2, 0, none⟩) 1 1] (devH d false ++ [(2, .row 114 (.lst (secL a)) true)]) (iv 0) (devH { d with S := d.S.set (p + 0).toNat a, done := d.done + 1 } false) := by
  have ⟨g1, g2⟩ := hd.nd
  have g3 := hd.len
  have g4 := hd.nb
  have g5 := hd.dn
  have ep0 := hd.ep n.toNat
  exact pth (denQ ([.int .i64 (n), .int .i64 (ep), .int .i64 (p)] ++ devC d ++ secL a ++ [.int .i64 (d.n), .int .i64 ((d.n) - (p)), .int .i64 (d.e ((n) : Int).toNat), .int .i64 ((d.done) + (1)), .int .i64 ((p) + (0))]) rfl [.v (.slice (some ⟨1, 0, none⟩) d.n d.n), .v (.pointer (some ⟨0, 1 + ((n) : Int).toNat * 1, none⟩)), .v (.pointer (some ⟨1, 0 + (((p) + (0)) : Int).toNat * 64, none⟩))] rfl [enc secL d.S, enc secL (d.S.set (((p) + (0)) : Int).toNat a)] (PL.cons (enc_plain secL_plain _) (PL.cons (enc_plain secL_plain _) no_rows))) ⟨[(.bin .gtr 3 (sv 11) (.int .i64 0), .bool true), (.bin .geq 3 (sv 2) (.int .i64 0), .bool true), (.len 92 (.chan (some 0)), sv 80), (.bin .leq 3 (sv 2) (sv 80), .bool true), (.bin .sub 3 (sv 80) (sv 2), sv 81), (.bin .leq 3 (.int .i64 1) (sv 81), .bool true), (.bin .geq 3 (sv 0) (.int .i64 0), .bool true), (.bin .lss 3 (sv 0) (sv 11), .bool true), (.bin .lss 2 (sv 1) (.int .i64 0), .bool false), (.ixa 93 (.pointer (some ⟨0, 1, none⟩)) (sv 0), .chan (some 1)), (.bin .gtr 2 (sv 1) (sv 82), .bool false), (.bin .lss 2 (sv 1) (sv 82), .bool false), (.test .f64 12, .bool false), (.bin .add 2 (sv 15) (.int .i64 1), sv 83), (.bin .add 3 (sv 2) (.int .i64 0), sv 84), (.ixa 92 (.chan (some 0)) (sv 84), .chan (some 2))], [], [([2, 1000000], ⟨[.chan (some 1)], 5, [], [⟨0, 0, true, .row 95 (.lst ([.chan (some 0)] ++ svs 3 8)) false, .row 95 (.lst ([.chan (some 0)] ++ svs 3 8)) false⟩, ⟨1, 1, true, .orow 114 0 false, .orow 114 0 false⟩], [], sv 82⟩), ([114, 1000001], ⟨[.chan (some 2), .agg (svs 16 64).toArray], 7, [], [⟨1, 0, false, .orow 114 0 false, .orow 114 1 false⟩], [], .bool false⟩)]⟩ [] ⟨qT ((d.nd) > (0)) (by omega), qT ((p) ≥ (0)) (by omega), asLen u92 rfl (by kernel_rfl), qT ((p) ≤ (d.n)) (by omega), aq (.int .i64 ((d.n) - (p))) (.int .i64 (IntKind.i64.wrap ((d.n) - (p)))) (wVi64 ((d.n) - (p)) (by omega) (by omega)), qT ((1) ≤ ((d.n) - (p))) (by omega), qT ((n) ≥ (0)) (by omega), qT ((n) < (d.nd)) (by omega), qF ((ep) < (0)) (by omega), asIxArr u93 z2 rfl (by omega) (by omega) rfl rfl, qF ((ep) > (d.e ((n) : Int).toNat)) (by omega), qF ((ep) < (d.e ((n) : Int).toNat)) (by omega), tB (hc), aq (.int .i64 ((d.done) + (1))) (.int .i64 (IntKind.i64.wrap ((d.done) + (1)))) (wVi64 ((d.done) + (1)) (by omega) (by omega)), aq (.int .i64 ((p) + (0))) (.int .i64 (IntKind.i64.wrap ((p) + (0)))) (wVi64 ((p) + (0)) (by omega) (by omega)), asIxa u92 z114 rfl rfl (by omega) (by omega) rfl rfl, trivial⟩ trivial ⟨ld0 (LdC.cell (T := 95) (ro := true) [(1, .row 114 (.lst (enc secL d.S)) true)] a2 (dev_ep d (n := ((n) : Int).toNat) (by omega))), st (stE (S := d.S) (i := (((p) + (0)) : Int).toNat) (T := 114) secL_len secL_plain a [] z114 (by decide) (by first | omega | (simp only [List.length_set]; omega))), trivial⟩ trivial 3 ([(0, .row 95 (.lst (ch 0 :: svs 3 13)) false), (1, .orow 114 0 false)] ++ [(2, .row 114 (.lst (svs 16 64)) true)]) [pt 0 0, sv 0, sv 1, sv 2, .slice (some ⟨2, 0, none⟩) 1 1] [(0, 0), (1, 1)]
theorem dwrite1B {d : Dv} (hd : DOK d) {n ep p : Int} (hn : 0 ≤ n ∧ n < d.nd) (hp : 0 ≤ p ∧ p + 1 ≤ d.n) (hc : d.cut = true) (hl : d.left = 0) (he : ep = d.e n.toNat) (a : Sec) : Ctr Try.prog 65 [pt 0 0, iv n, iv ep, iv p, .slice (some ⟨2, 0, none⟩) 1 1] (devH d false ++ [(2, .row 114 (.lst (secL a)) true)]) (iv 0) (devH { d with lost := true } false) := by
  have ⟨g1, g2⟩ := hd.nd
  have g3 := hd.len
  have g4 := hd.nb
  have g5 := hd.dn
  have ep0 := hd.ep n.toNat
  exact pth (denQ ([.int .i64 (n), .int .i64 (ep), .int .i64 (p)] ++ devC d ++ secL a ++ [.int .i64 (d.n), .int .i64 ((d.n) - (p)), .int .i64 (d.e ((n) : Int).toNat)]) rfl [.v (.slice (some ⟨1, 0, none⟩) d.n d.n), .v (.pointer (some ⟨0, 1 + ((n) : Int).toNat * 1, none⟩))] rfl [enc secL d.S] (PL.cons (enc_plain secL_plain _) no_rows)) ⟨[(.bin .gtr 3 (sv 11) (.int .i64 0), .bool true), (.bin .geq 3 (sv 2) (.int .i64 0), .bool true), (.len 92 (.chan (some 0)), sv 80), (.bin .leq 3 (sv 2) (sv 80), .bool true), (.bin .sub 3 (sv 80) (sv 2), sv 81), (.bin .leq 3 (.int .i64 1) (sv 81), .bool true), (.bin .geq 3 (sv 0) (.int .i64 0), .bool true), (.bin .lss 3 (sv 0) (sv 11), .bool true), (.bin .lss 2 (sv 1) (.int .i64 0), .bool false), (.ixa 93 (.pointer (some ⟨0, 1, none⟩)) (sv 0), .chan (some 1)), (.bin .gtr 2 (sv 1) (sv 82), .bool false), (.bin .lss 2 (sv 1) (sv 82), .bool false), (.test .f64 12, .bool true), (.bin .eql 3 (sv 13) (.int .i64 0), .bool true)], [], [([2, 1000000], ⟨[.chan (some 1)], 5, [], [⟨0, 0, true, .row 95 (.lst ([.chan (some 0)] ++ svs 3 8)) false, .row 95 (.lst ([.chan (some 0)] ++ svs 3 8)) false⟩, ⟨1, 1, true, .orow 114 0 false, .orow 114 0 false⟩], [], sv 82⟩)]⟩ [] ⟨qT ((d.nd) > (0)) (by omega), qT ((p) ≥ (0)) (by omega), asLen u92 rfl (by kernel_rfl), qT ((p) ≤ (d.n)) (by omega), aq (.int .i64 ((d.n) - (p))) (.int .i64 (IntKind.i64.wrap ((d.n) - (p)))) (wVi64 ((d.n) - (p)) (by omega) (by omega)), qT ((1) ≤ ((d.n) - (p))) (by omega), qT ((n) ≥ (0)) (by omega), qT ((n) < (d.nd)) (by omega), qF ((ep) < (0)) (by omega), asIxArr u93 z2 rfl (by omega) (by omega) rfl rfl, qF ((ep) > (d.e ((n) : Int).toNat)) (by omega), qF ((ep) < (d.e ((n) : Int).toNat)) (by omega), tB (hc), eT (d.left) (0) (by omega), trivial⟩ trivial ⟨ld0 (LdC.cell (T := 95) (ro := true) [(1, .row 114 (.lst (enc secL d.S)) true)] a2 (dev_ep d (n := ((n) : Int).toNat) (by omega))), trivial⟩ trivial 3 ([(0, .row 95 (.lst (ch 0 :: svs 3 13)) false), (1, .orow 114 0 false)] ++ [(2, .row 114 (.lst (svs 16 64)) true)]) [pt 0 0, sv 0, sv 1, sv 2, .slice (some ⟨2, 0, none⟩) 1 1] [(0, 0), (1, 1)]
theorem dwrite1D {d : Dv} (hd : DOK d) {n ep p : Int} (hn : 0 ≤ n ∧ n < d.nd) (hp : 0 ≤ p ∧ p + 1 ≤ d.n) (hc : d.cut = true) (hl : 1 ≤ d.left ∧ d.left ≤ 1000000) (he : ep = d.e n.toNat) (a : Sec) : Ctr Try.prog 65 [pt 0 0, iv n, iv ep, iv p, .slice (some ⟨2, 0, none⟩) 1 1] (devH d false ++ [(2, .row 114 (.lst (secL a)) true)]) (iv 0) (devH { d with S := d.S.set (p + 0).toNat a, left := d.left - 1, done := d.done + 1 } false) := by
  have ⟨g1, g2⟩ := hd.nd
  have g3 := hd.len
  have g4 := hd.nb
  have g5 := hd.dn
  have ep0 := hd.ep n.toNat
  exact pth (denQ ([.int .i64 (n), .int .i64 (ep), .int .i64 (p)] ++ devC d ++ secL a ++ [.int .i64 (d.n), .int .i64 ((d.n) - (p)), .int .i64 (d.e ((n) : Int).toNat), .int .i64 ((d.left) - (1)), .int .i64 ((d.done) + (1)), .int .i64 ((p) + (0))]) rfl [.v (.slice (some ⟨1, 0, none⟩) d.n d.n), .v (.pointer (some ⟨0, 1 + ((n) : Int).toNat * 1, none⟩)), .v (.pointer (some ⟨1, 0 + (((p) + (0)) : Int).toNat * 64, none⟩))] rfl [enc secL d.S, enc secL (d.S.set (((p) + (0)) : Int).toNat a)] (PL.cons (enc_plain secL_plain _) (PL.cons (enc_plain secL_plain _) no_rows))) ⟨[(.bin .gtr 3 (sv 11) (.int .i64 0), .bool true), (.bin .geq 3 (sv 2) (.int .i64 0), .bool true), (.len 92 (.chan (some 0)), sv 80), (.bin .leq 3 (sv 2) (sv 80), .bool true), (.bin .sub 3 (sv 80) (sv 2), sv 81), (.bin .leq 3 (.int .i64 1) (sv 81), .bool true), (.bin .geq 3 (sv 0) (.int .i64 0), .bool true), (.bin .lss 3 (sv 0) (sv 11), .bool true), (.bin .lss 2 (sv 1) (.int .i64 0), .bool false), (.ixa 93 (.pointer (some ⟨0, 1, none⟩)) (sv 0), .chan (some 1)), (.bin .gtr 2 (sv 1) (sv 82), .bool false), (.bin .lss 2 (sv 1) (sv 82), .bool false), (.test .f64 12, .bool true), (.bin .eql 3 (sv 13) (.int .i64 0), .bool false), (.bin .sub 3 (sv 13) (.int .i64 1), sv 83), (.bin .add 2 (sv 15) (.int .i64 1), sv 84), (.bin .add 3 (sv 2) (.int .i64 0), sv 85), (.ixa 92 (.chan (some 0)) (sv 85), .chan (some 2))], [], [([2, 1000000], ⟨[.chan (some 1)], 5, [], [⟨0, 0, true, .row 95 (.lst ([.chan (some 0)] ++ svs 3 8)) false, .row 95 (.lst ([.chan (some 0)] ++ svs 3 8)) false⟩, ⟨1, 1, true, .orow 114 0 false, .orow 114 0 false⟩], [], sv 82⟩), ([114, 1000001], ⟨[.chan (some 2), .agg (svs 16 64).toArray], 7, [], [⟨1, 0, false, .orow 114 0 false, .orow 114 1 false⟩], [], .bool false⟩)]⟩ [] ⟨qT ((d.nd) > (0)) (by omega), qT ((p) ≥ (0)) (by omega), asLen u92 rfl (by kernel_rfl), qT ((p) ≤ (d.n)) (by omega), aq (.int .i64 ((d.n) - (p))) (.int .i64 (IntKind.i64.wrap ((d.n) - (p)))) (wVi64 ((d.n) - (p)) (by omega) (by omega)), qT ((1) ≤ ((d.n) - (p))) (by omega), qT ((n) ≥ (0)) (by omega), qT ((n) < (d.nd)) (by omega), qF ((ep) < (0)) (by omega), asIxArr u93 z2 rfl (by omega) (by omega) rfl rfl, qF ((ep) > (d.e ((n) : Int).toNat)) (by omega), qF ((ep) < (d.e ((n) : Int).toNat)) (by omega), tB (hc), eF (d.left) (0) (by omega), aq (.int .i64 ((d.left) - (1))) (.int .i64 (IntKind.i64.wrap ((d.left) - (1)))) (wVi64 ((d.left) - (1)) (by omega) (by omega)), aq (.int .i64 ((d.done) + (1))) (.int .i64 (IntKind.i64.wrap ((d.done) + (1)))) (wVi64 ((d.done) + (1)) (by omega) (by omega)), aq (.int .i64 ((p) + (0))) (.int .i64 (IntKind.i64.wrap ((p) + (0)))) (wVi64 ((p) + (0)) (by omega) (by omega)), asIxa u92 z114 rfl rfl (by omega) (by omega) rfl rfl, trivial⟩ trivial ⟨ld0 (LdC.cell (T := 95) (ro := true) [(1, .row 114 (.lst (enc secL d.S)) true)] a2 (dev_ep d (n := ((n) : Int).toNat) (by omega))), st (stE (S := d.S) (i := (((p) + (0)) : Int).toNat) (T := 114) secL_len secL_plain a [] z114 (by decide) (by first | omega | (simp only [List.length_set]; omega))), trivial⟩ trivial 3 ([(0, .row 95 (.lst (ch 0 :: svs 3 13)) false), (1, .orow 114 0 false)] ++ [(2, .row 114 (.lst (svs 16 64)) true)]) [pt 0 0, sv 0, sv 1, sv 2, .slice (some ⟨2, 0, none⟩) 1 1] [(0, 0), (1, 1)]
theorem dwrite2A {d : Dv} (hd : DOK d) {n ep p : Int} (hn : 0 ≤ n ∧ n < d.nd) (hp : 0 ≤ p ∧ p + 2 ≤ d.n) (hc : d.cut = false) (he : ep = d.e n.toNat) (a b : Sec) : Ctr Try.prog 65 [pt 0 0, iv n, iv ep, iv p, .slice (some ⟨2, 0, none⟩) 2 2] (devH d false ++ [(2, .row 125 (.lst (secL a ++ secL b)) true)]) (iv 0) (devH { d with S := (d.S.set (p + 0).toNat a).set (p + 1).toNat b, done := d.done + 1 + 1 } false) := by
  have ⟨g1, g2⟩ := hd.nd
  have g3 := hd.len
  have g4 := hd.nb
  have g5 := hd.dn
  have ep0 := hd.ep n.toNat
  exact pth (denQ ([.int .i64 (n), .int .i64 (ep), .int .i64 (p)] ++ devC d ++ secL a ++ secL b ++ [.int .i64 (d.n), .int .i64 ((d.n) - (p)), .int .i64 (d.e ((n) : Int).toNat), .int .i64 ((d.done) + (1)), .int .i64 ((p) + (0)), .int .i64 (((d.done) + (1)) + (1)), .int .i64 ((p) + (1))]) rfl [.v (.slice (some ⟨1, 0, none⟩) d.n d.n), .v (.pointer (some ⟨0, 1 + ((n) : Int).toNat * 1, none⟩)), .v (.pointer (some ⟨1, 0 + (((p) + (0)) : Int).toNat * 64, none⟩)), .v (.pointer (some ⟨1, 0 + (((p) + (1)) : Int).toNat * 64, none⟩))] rfl [enc secL d.S, enc secL (d.S.set (((p) + (0)) : Int).toNat a), enc secL ((d.S.set (((p) + (0)) : Int).toNat a).set (((p) + (1)) : Int).toNat b)] (PL.cons (enc_plain secL_plain _) (PL.cons (enc_plain secL_plain _) (PL.cons (enc_plain secL_plain _) no_rows)))) ⟨[(.bin .gtr 3 (sv 11) (.int .i64 0), .bool true), (.bin .geq 3 (sv 2) (.int .i64 0), .bool true), (.len 92 (.chan (some 0)), sv 144), (.bin .leq 3 (sv 2) (sv 144), .bool true), (.bin .sub 3 (sv 144) (sv 2), sv 145), (.bin .leq 3 (.int .i64 2) (sv 145), .bool true), (.bin .geq 3 (sv 0) (.int .i64 0), .bool true), (.bin .lss 3 (sv 0) (sv 11), .bool true), (.bin .lss 2 (sv 1) (.int .i64 0), .bool false), (.ixa 93 (.pointer (some ⟨0, 1, none⟩)) (sv 0), .chan (some 1)), (.bin .gtr 2 (sv 1) (sv 146), .bool false), (.bin .lss 2 (sv 1) (sv 146), .bool false), (.test .f64 12, .bool false), (.bin .add 2 (sv 15) (.int .i64 1), sv 147), (.bin .add 3 (sv 2) (.int .i64 0), sv 148), (.ixa 92 (.chan (some 0)) (sv 148), .chan (some 2)), (.bin .add 2 (sv 147) (.int .i64 1), sv 149), (.bin .add 3 (sv 2) (.int .i64 1), sv 150), (.ixa 92 (.chan (some 0)) (sv 150), .chan (some 3))], [], [([2, 1000000], ⟨[.chan (some 1)], 5, [], [⟨0, 0, true, .row 95 (.lst ([.chan (some 0)] ++ svs 3 8)) false, .row 95 (.lst ([.chan (some 0)] ++ svs 3 8)) false⟩, ⟨1, 1, true, .orow 114 0 false, .orow 114 0 false⟩], [], sv 146⟩), ([114, 1000001], ⟨[.chan (some 2), .agg (svs 16 64).toArray], 7, [], [⟨1, 0, false, .orow 114 0 false, .orow 114 1 false⟩], [], .bool false⟩), ([114, 1000001], ⟨[.chan (some 3), .agg (svs 80 64).toArray], 9, [], [⟨1, 0, false, .orow 114 1 false, .orow 114 2 false⟩], [], .bool false⟩)]⟩ [] ⟨qT ((d.nd) > (0)) (by omega), qT ((p) ≥ (0)) (by omega), asLen u92 rfl (by kernel_rfl), qT ((p) ≤ (d.n)) (by omega), aq (.int .i64 ((d.n) - (p))) (.int .i64 (IntKind.i64.wrap ((d.n) - (p)))) (wVi64 ((d.n) - (p)) (by omega) (by omega)), qT ((2) ≤ ((d.n) - (p))) (by omega), qT ((n) ≥ (0)) (by omega), qT ((n) < (d.nd)) (by omega), qF ((ep) < (0)) (by omega), asIxArr u93 z2 rfl (by omega) (by omega) rfl rfl, qF ((ep) > (d.e ((n) : Int).toNat)) (by omega), qF ((ep) < (d.e ((n) : Int).toNat)) (by omega), tB (hc), aq (.int .i64 ((d.done) + (1))) (.int .i64 (IntKind.i64.wrap ((d.done) + (1)))) (wVi64 ((d.done) + (1)) (by omega) (by omega)), aq (.int .i64 ((p) + (0))) (.int .i64 (IntKind.i64.wrap ((p) + (0)))) (wVi64 ((p) + (0)) (by omega) (by omega)), asIxa u92 z114 rfl rfl (by omega) (by omega) rfl rfl, aq (.int .i64 (((d.done) + (1)) + (1))) (.int .i64 (IntKind.i64.wrap (((d.done) + (1)) + (1)))) (wVi64 (((d.done) + (1)) + (1)) (by omega) (by omega)), aq (.int .i64 ((p) + (1))) (.int .i64 (IntKind.i64.wrap ((p) + (1)))) (wVi64 ((p) + (1)) (by omega) (by omega)), asIxa u92 z114 rfl rfl (by omega) (by omega) rfl rfl, trivial⟩ trivial ⟨ld0 (LdC.cell (T := 95) (ro := true) [(1, .row 114 (.lst (enc secL d.S)) true)] a2 (dev_ep d (n := ((n) : Int).toNat) (by omega))), st (stE (S := d.S) (i := (((p) + (0)) : Int).toNat) (T := 114) secL_len secL_plain a [] z114 (by decide) (by first | omega | (simp only [List.length_set]; omega))), st (stE (S := (d.S.set (((p) + (0)) : Int).toNat a)) (i := (((p) + (1)) : Int).toNat) (T := 114) secL_len secL_plain b [] z114 (by decide) (by first | omega | (simp only [List.length_set]; omega))), trivial⟩ trivial 3 ([(0, .row 95 (.lst (ch 0 :: svs 3 13)) false), (1, .orow 114 0 false)] ++ [(2, .row 125 (.lst (svs 16 128)) true)]) [pt 0 0, sv 0, sv 1, sv 2, .slice (some ⟨2, 0, none⟩) 2 2] [(0, 0), (1, 1)]
theorem dwrite2B {d : Dv} (hd : DOK d) {n ep p : Int} (hn : 0 ≤ n ∧ n < d.nd) (hp : 0 ≤ p ∧ p + 2 ≤ d.n) (hc : d.cut = true) (hl : d.left = 0) (he : ep = d.e n.toNat) (a b : Sec) : Ctr Try.prog 65 [pt 0 0, iv n, iv ep, iv p, .slice (some ⟨2, 0, none⟩) 2 2] (devH d false ++ [(2, .row 125 (.lst (secL a ++ secL b)) true)]) (iv 0) (devH { d with lost := true } false) := by
  have ⟨g1, g2⟩ := hd.nd
  have g3 := hd.len
  have g4 := hd.nb
  have g5 := hd.dn
  have ep0 := hd.ep n.toNat
  exact pth (denQ ([.int .i64 (n), .int .i64 (ep), .int .i64 (p)] ++ devC d ++ secL a ++ secL b ++ [.int .i64 (d.n), .int .i64 ((d.n) - (p)), .int .i64 (d.e ((n) : Int).toNat)]) rfl [.v (.slice (some ⟨1, 0, none⟩) d.n d.n), .v (.pointer (some ⟨0, 1 + ((n) : Int).toNat * 1, none⟩))] rfl [enc secL d.S] (PL.cons (enc_plain secL_plain _) no_rows)) ⟨[(.bin .gtr 3 (sv 11) (.int .i64 0), .bool true), (.bin .geq 3 (sv 2) (.int .i64 0), .bool true), (.len 92 (.chan (some 0)), sv 144), (.bin .leq 3 (sv 2) (sv 144), .bool true), (.bin .sub 3 (sv 144) (sv 2), sv 145), (.bin .leq 3 (.int .i64 2) (sv 145), .bool true), (.bin .geq 3 (sv 0) (.int .i64 0), .bool true), (.bin .lss 3 (sv 0) (sv 11), .bool true), (.bin .lss 2 (sv 1) (.int .i64 0), .bool false), (.ixa 93 (.pointer (some ⟨0, 1, none⟩)) (sv 0), .chan (some 1)), (.bin .gtr 2 (sv 1) (sv 146), .bool false), (.bin .lss 2 (sv 1) (sv 146), .bool false), (.test .f64 12, .bool true), (.bin .eql 3 (sv 13) (.int .i64 0), .bool true)], [], [([2, 1000000], ⟨[.chan (some 1)], 5, [], [⟨0, 0, true, .row 95 (.lst ([.chan (some 0)] ++ svs 3 8)) false, .row 95 (.lst ([.chan (some 0)] ++ svs 3 8)) false⟩, ⟨1, 1, true, .orow 114 0 false, .orow 114 0 false⟩], [], sv 146⟩)]⟩ [] ⟨qT ((d.nd) > (0)) (by omega), qT ((p) ≥ (0)) (by omega), asLen u92 rfl (by kernel_rfl), qT ((p) ≤ (d.n)) (by omega), aq (.int .i64 ((d.n) - (p))) (.int .i64 (IntKind.i64.wrap ((d.n) - (p)))) (wVi64 ((d.n) - (p)) (by omega) (by omega)), qT ((2) ≤ ((d.n) - (p))) (by omega), qT ((n) ≥ (0)) (by omega), qT ((n) < (d.nd)) (by omega), qF ((ep) < (0)) (by omega), asIxArr u93 z2 rfl (by omega) (by omega) rfl rfl, qF ((ep) > (d.e ((n) : Int).toNat)) (by omega), qF ((ep) < (d.e ((n) : Int).toNat)) (by omega), tB (hc), eT (d.left) (0) (by omega), trivial⟩ trivial ⟨ld0 (LdC.cell (T := 95) (ro := true) [(1, .row 114 (.lst (enc secL d.S)) true)] a2 (dev_ep d (n := ((n) : Int).toNat) (by omega))), trivial⟩ trivial 3 ([(0, .row 95 (.lst (ch 0 :: svs 3 13)) false), (1, .orow 114 0 false)] ++ [(2, .row 125 (.lst (svs 16 128)) true)]) [pt 0 0, sv 0, sv 1, sv 2, .slice (some ⟨2, 0, none⟩) 2 2] [(0, 0), (1, 1)]
theorem dwrite2C {d : Dv} (hd : DOK d) {n ep p : Int} (hn : 0 ≤ n ∧ n < d.nd) (hp : 0 ≤ p ∧ p + 2 ≤ d.n) (hc : d.cut = true) (hl : d.left = 1) (he : ep = d.e n.toNat) (a b : Sec) : Ctr Try.prog 65 [pt 0 0, iv n, iv ep, iv p, .slice (some ⟨2, 0, none⟩) 2 2] (devH d false ++ [(2, .row 125 (.lst (secL a ++ secL b)) true)]) (iv 0) (devH { d with S := d.S.set (p + 0).toNat a, left := d.left - 1, lost := true, done := d.done + 1 } false) := by
  have ⟨g1, g2⟩ := hd.nd
  have g3 := hd.len
  have g4 := hd.nb
  have g5 := hd.dn
  have ep0 := hd.ep n.toNat
  exact pth (denQ ([.int .i64 (n), .int .i64 (ep), .int .i64 (p)] ++ devC d ++ secL a ++ secL b ++ [.int .i64 (d.n), .int .i64 ((d.n) - (p)), .int .i64 (d.e ((n) : Int).toNat), .int .i64 ((d.left) - (1)), .int .i64 ((d.done) + (1)), .int .i64 ((p) + (0))]) rfl [.v (.slice (some ⟨1, 0, none⟩) d.n d.n), .v (.pointer (some ⟨0, 1 + ((n) : Int).toNat * 1, none⟩)), .v (.pointer (some ⟨1, 0 + (((p) + (0)) : Int).toNat * 64, none⟩))] rfl [enc secL d.S, enc secL (d.S.set (((p) + (0)) : Int).toNat a)] (PL.cons (enc_plain secL_plain _) (PL.cons (enc_plain secL_plain _) no_rows))) ⟨[(.bin .gtr 3 (sv 11) (.int .i64 0), .bool true), (.bin .geq 3 (sv 2) (.int .i64 0), .bool true), (.len 92 (.chan (some 0)), sv 144), (.bin .leq 3 (sv 2) (sv 144), .bool true), (.bin .sub 3 (sv 144) (sv 2), sv 145), (.bin .leq 3 (.int .i64 2) (sv 145), .bool true), (.bin .geq 3 (sv 0) (.int .i64 0), .bool true), (.bin .lss 3 (sv 0) (sv 11), .bool true), (.bin .lss 2 (sv 1) (.int .i64 0), .bool false), (.ixa 93 (.pointer (some ⟨0, 1, none⟩)) (sv 0), .chan (some 1)), (.bin .gtr 2 (sv 1) (sv 146), .bool false), (.bin .lss 2 (sv 1) (sv 146), .bool false), (.test .f64 12, .bool true), (.bin .eql 3 (sv 13) (.int .i64 0), .bool false), (.bin .sub 3 (sv 13) (.int .i64 1), sv 147), (.bin .add 2 (sv 15) (.int .i64 1), sv 148), (.bin .add 3 (sv 2) (.int .i64 0), sv 149), (.ixa 92 (.chan (some 0)) (sv 149), .chan (some 2)), (.bin .eql 3 (sv 147) (.int .i64 0), .bool true)], [], [([2, 1000000], ⟨[.chan (some 1)], 5, [], [⟨0, 0, true, .row 95 (.lst ([.chan (some 0)] ++ svs 3 8)) false, .row 95 (.lst ([.chan (some 0)] ++ svs 3 8)) false⟩, ⟨1, 1, true, .orow 114 0 false, .orow 114 0 false⟩], [], sv 146⟩), ([114, 1000001], ⟨[.chan (some 2), .agg (svs 16 64).toArray], 7, [], [⟨1, 0, false, .orow 114 0 false, .orow 114 1 false⟩], [], .bool false⟩)]⟩ [] ⟨qT ((d.nd) > (0)) (by omega), qT ((p) ≥ (0)) (by omega), asLen u92 rfl (by kernel_rfl), qT ((p) ≤ (d.n)) (by omega), aq (.int .i64 ((d.n) - (p))) (.int .i64 (IntKind.i64.wrap ((d.n) - (p)))) (wVi64 ((d.n) - (p)) (by omega) (by omega)), qT ((2) ≤ ((d.n) - (p))) (by omega), qT ((n) ≥ (0)) (by omega), qT ((n) < (d.nd)) (by omega), qF ((ep) < (0)) (by omega), asIxArr u93 z2 rfl (by omega) (by omega) rfl rfl, qF ((ep) > (d.e ((n) : Int).toNat)) (by omega), qF ((ep) < (d.e ((n) : Int).toNat)) (by omega), tB (hc), eF (d.left) (0) (by omega), aq (.int .i64 ((d.left) - (1))) (.int .i64 (IntKind.i64.wrap ((d.left) - (1)))) (wVi64 ((d.left) - (1)) (by omega) (by omega)), aq (.int .i64 ((d.done) + (1))) (.int .i64 (IntKind.i64.wrap ((d.done) + (1)))) (wVi64 ((d.done) + (1)) (by omega) (by omega)), aq (.int .i64 ((p) + (0))) (.int .i64 (IntKind.i64.wrap ((p) + (0)))) (wVi64 ((p) + (0)) (by omega) (by omega)), asIxa u92 z114 rfl rfl (by omega) (by omega) rfl rfl, eT ((d.left) - (1)) (0) (by omega), trivial⟩ trivial ⟨ld0 (LdC.cell (T := 95) (ro := true) [(1, .row 114 (.lst (enc secL d.S)) true)] a2 (dev_ep d (n := ((n) : Int).toNat) (by omega))), st (stE (S := d.S) (i := (((p) + (0)) : Int).toNat) (T := 114) secL_len secL_plain a [] z114 (by decide) (by first | omega | (simp only [List.length_set]; omega))), trivial⟩ trivial 3 ([(0, .row 95 (.lst (ch 0 :: svs 3 13)) false), (1, .orow 114 0 false)] ++ [(2, .row 125 (.lst (svs 16 128)) true)]) [pt 0 0, sv 0, sv 1, sv 2, .slice (some ⟨2, 0, none⟩) 2 2] [(0, 0), (1, 1)]
theorem dwrite2D {d : Dv} (hd : DOK d) {n ep p : Int} (hn : 0 ≤ n ∧ n < d.nd) (hp : 0 ≤ p ∧ p + 2 ≤ d.n) (hc : d.cut = true) (hl : 2 ≤ d.left ∧ d.left ≤ 1000000) (he : ep = d.e n.toNat) (a b : Sec) : Ctr Try.prog 65 [pt 0 0, iv n, iv ep, iv p, .slice (some ⟨2, 0, none⟩) 2 2] (devH d false ++ [(2, .row 125 (.lst (secL a ++ secL b)) true)]) (iv 0) (devH { d with S := (d.S.set (p + 0).toNat a).set (p + 1).toNat b, left := d.left - 1 - 1, done := d.done + 1 + 1 } false) := by
  have ⟨g1, g2⟩ := hd.nd
  have g3 := hd.len
  have g4 := hd.nb
  have g5 := hd.dn
  have ep0 := hd.ep n.toNat
  exact pth (denQ ([.int .i64 (n), .int .i64 (ep), .int .i64 (p)] ++ devC d ++ secL a ++ secL b ++ [.int .i64 (d.n), .int .i64 ((d.n) - (p)), .int .i64 (d.e ((n) : Int).toNat), .int .i64 ((d.left) - (1)), .int .i64 ((d.done) + (1)), .int .i64 ((p) + (0)), .int .i64 (((d.left) - (1)) - (1)), .int .i64 (((d.done) + (1)) + (1)), .int .i64 ((p) + (1))]) rfl [.v (.slice (some ⟨1, 0, none⟩) d.n d.n), .v (.pointer (some ⟨0, 1 + ((n) : Int).toNat * 1, none⟩)), .v (.pointer (some ⟨1, 0 + (((p) + (0)) : Int).toNat * 64, none⟩)), .v (.pointer (some ⟨1, 0 + (((p) + (1)) : Int).toNat * 64, none⟩))] rfl [enc secL d.S, enc secL (d.S.set (((p) + (0)) : Int).toNat a), enc secL ((d.S.set (((p) + (0)) : Int).toNat a).set (((p) + (1)) : Int).toNat b)] (PL.cons (enc_plain secL_plain _) (PL.cons (enc_plain secL_plain _) (PL.cons (enc_plain secL_plain _) no_rows)))) ⟨[(.bin .gtr 3 (sv 11) (.int .i64 0), .bool true), (.bin .geq 3 (sv 2) (.int .i64 0), .bool true), (.len 92 (.chan (some 0)), sv 144), (.bin .leq 3 (sv 2) (sv 144), .bool true), (.bin .sub 3 (sv 144) (sv 2), sv 145), (.bin .leq 3 (.int .i64 2) (sv 145), .bool true), (.bin .geq 3 (sv 0) (.int .i64 0), .bool true), (.bin .lss 3 (sv 0) (sv 11), .bool true), (.bin .lss 2 (sv 1) (.int .i64 0), .bool false), (.ixa 93 (.pointer (some ⟨0, 1, none⟩)) (sv 0), .chan (some 1)), (.bin .gtr 2 (sv 1) (sv 146), .bool false), (.bin .lss 2 (sv 1) (sv 146), .bool false), (.test .f64 12, .bool true), (.bin .eql 3 (sv 13) (.int .i64 0), .bool false), (.bin .sub 3 (sv 13) (.int .i64 1), sv 147), (.bin .add 2 (sv 15) (.int .i64 1), sv 148), (.bin .add 3 (sv 2) (.int .i64 0), sv 149), (.ixa 92 (.chan (some 0)) (sv 149), .chan (some 2)), (.bin .eql 3 (sv 147) (.int .i64 0), .bool false), (.bin .sub 3 (sv 147) (.int .i64 1), sv 150), (.bin .add 2 (sv 148) (.int .i64 1), sv 151), (.bin .add 3 (sv 2) (.int .i64 1), sv 152), (.ixa 92 (.chan (some 0)) (sv 152), .chan (some 3))], [], [([2, 1000000], ⟨[.chan (some 1)], 5, [], [⟨0, 0, true, .row 95 (.lst ([.chan (some 0)] ++ svs 3 8)) false, .row 95 (.lst ([.chan (some 0)] ++ svs 3 8)) false⟩, ⟨1, 1, true, .orow 114 0 false, .orow 114 0 false⟩], [], sv 146⟩), ([114, 1000001], ⟨[.chan (some 2), .agg (svs 16 64).toArray], 7, [], [⟨1, 0, false, .orow 114 0 false, .orow 114 1 false⟩], [], .bool false⟩), ([114, 1000001], ⟨[.chan (some 3), .agg (svs 80 64).toArray], 9, [], [⟨1, 0, false, .orow 114 1 false, .orow 114 2 false⟩], [], .bool false⟩)]⟩ [] ⟨qT ((d.nd) > (0)) (by omega), qT ((p) ≥ (0)) (by omega), asLen u92 rfl (by kernel_rfl), qT ((p) ≤ (d.n)) (by omega), aq (.int .i64 ((d.n) - (p))) (.int .i64 (IntKind.i64.wrap ((d.n) - (p)))) (wVi64 ((d.n) - (p)) (by omega) (by omega)), qT ((2) ≤ ((d.n) - (p))) (by omega), qT ((n) ≥ (0)) (by omega), qT ((n) < (d.nd)) (by omega), qF ((ep) < (0)) (by omega), asIxArr u93 z2 rfl (by omega) (by omega) rfl rfl, qF ((ep) > (d.e ((n) : Int).toNat)) (by omega), qF ((ep) < (d.e ((n) : Int).toNat)) (by omega), tB (hc), eF (d.left) (0) (by omega), aq (.int .i64 ((d.left) - (1))) (.int .i64 (IntKind.i64.wrap ((d.left) - (1)))) (wVi64 ((d.left) - (1)) (by omega) (by omega)), aq (.int .i64 ((d.done) + (1))) (.int .i64 (IntKind.i64.wrap ((d.done) + (1)))) (wVi64 ((d.done) + (1)) (by omega) (by omega)), aq (.int .i64 ((p) + (0))) (.int .i64 (IntKind.i64.wrap ((p) + (0)))) (wVi64 ((p) + (0)) (by omega) (by omega)), asIxa u92 z114 rfl rfl (by omega) (by omega) rfl rfl, eF ((d.left) - (1)) (0) (by omega), aq (.int .i64 (((d.left) - (1)) - (1))) (.int .i64 (IntKind.i64.wrap (((d.left) - (1)) - (1)))) (wVi64 (((d.left) - (1)) - (1)) (by omega) (by omega)), aq (.int .i64 (((d.done) + (1)) + (1))) (.int .i64 (IntKind.i64.wrap (((d.done) + (1)) + (1)))) (wVi64 (((d.done) + (1)) + (1)) (by omega) (by omega)), aq (.int .i64 ((p) + (1))) (.int .i64 (IntKind.i64.wrap ((p) + (1)))) (wVi64 ((p) + (1)) (by omega) (by omega)), asIxa u92 z114 rfl rfl (by omega) (by omega) rfl rfl, trivial⟩ trivial ⟨ld0 (LdC.cell (T := 95) (ro := true) [(1, .row 114 (.lst (enc secL d.S)) true)] a2 (dev_ep d (n := ((n) : Int).toNat) (by omega))), st (stE (S := d.S) (i := (((p) + (0)) : Int).toNat) (T := 114) secL_len secL_plain a [] z114 (by decide) (by first | omega | (simp only [List.length_set]; omega))), st (stE (S := (d.S.set (((p) + (0)) : Int).toNat a)) (i := (((p) + (1)) : Int).toNat) (T := 114) secL_len secL_plain b [] z114 (by decide) (by first | omega | (simp only [List.length_set]; omega))), trivial⟩ trivial 3 ([(0, .row 95 (.lst (ch 0 :: svs 3 13)) false), (1, .orow 114 0 false)] ++ [(2, .row 125 (.lst (svs 16 128)) true)]) [pt 0 0, sv 0, sv 1, sv 2, .slice (some ⟨2, 0, none⟩) 2 2] [(0, 0), (1, 1)]
end Go.Proofs.Ytpennfojidpmeaa
namespace Go.Sx
theorem MkC.of_run {P : Program} {t : TypeId} {a b : Value} {A B : HL} {i n cp c c' : Nat} {H' : Heap} (hrun : Run (makeSliceA P t a b) c (ofL A) (.slice (some ⟨i, 0, none⟩) n cp) c' H') (hB : ∀ b o, lkL B b = some o → ∃ o', H'.get b = some o' ∧ Weaker o' o) (hi : (lkL B i).isSome = true) :
    MkC P t a b A (.slice (some ⟨i, 0, none⟩) n cp) B := by
  intro w F E a' b' hr ha hb
  obtain ⟨L, hrun⟩ := hrun
  obtain ⟨v', w', E', k1, k2, k3, k4⟩ := @makeSlice_sound P w F E (ofL A) w den0 t a a' b b' _ c c' H' L hrun hr ha hb
  refine ⟨v', w', _, k1, fun j x hj hb => ?_, HR0.pick k3 hB, ?_⟩
  · show (if (lkL B j).isSome = true then E' j else none) = _
    rw [if_pos hb]; exact k2 _ _ hj
  · cases k4 with
    | sl h1 h2 h3 => exact @VR.sl den0 _ _ _ _ _ _ _ (by show (if (lkL B i).isSome = true then E' i else none) = _; rw [if_pos hi]; exact h1) h2 h3
end Go.Sx
namespace Go.Proofs.Ytpennfojidpmeaa
open Go.Sx
set_option maxRecDepth 20000
theorem repL_enc : ∀ n : Nat, repL (secL zeroS) n = enc secL (List.replicate n zeroS)
  | 0 => rfl
  | n + 1 => by rw [repL, repL_enc n, List.replicate_succ]; rfl
theorem zero114 : zeroB Try.prog 114 = some (secV zeroS) := by kernel_rfl
theorem bytes114 : bytesB Try.prog 114 = some 64 := by kernel_rfl
theorem sl92 : sliceElem Try.prog 92 = some 114 := by kernel_rfl
theorem mkSec {n : Nat} (h1 : 1 ≤ n) (h2 : n ≤ 4096) : MkC Try.prog 92 (iv (n : Int)) (iv (n : Int)) [] (.slice (some ⟨0, 0, none⟩) n n) [(0, .row 114 (.lst (enc secL (List.replicate n zeroS))) false)] := by
  refine MkC.of_run (c := 0) (c' := 1) (H' := (ofL []).set 0 (.row 114 (mkCells (repL (secL zeroS) n)) false)) ?_ (fun b o hb => ?_) rfl
  · show Run (makeSliceA Try.prog 92 (.int .i64 (.ofNat n)) (.int .i64 (.ofNat n))) _ _ _ _ _
    have hall : (repL (secL zeroS) n).all oneB = true := by rw [repL_enc]; exact app_all (enc_plain secL_plain _)
    unfold makeSliceA
    refine Run.bind (Run.opt sl92) (Run.bind (Run.opt z114) (Run.bind (Run.opt bytes114) (Run.bind (Run.guard ?_) (Run.bind (Run.opt zero114) (Run.bind (Run.guard rfl) (Run.bind (a := Value.pointer (some ⟨0, 0, none⟩)) (f := fun p => match p with
      | .pointer a => M.pure (Value.slice a n n)
      | _ => M.bad 427) ?_ Run.pure))))))
    · simp only [Bool.and_eq_true, Nat.blt_eq, Nat.ble_eq]
      unfold HALF
      omega
    · unfold newRowA
      exact Run.bind (Run.guard hall) (Run.bind (Run.newA rfl) Run.pure)
  · simp only [lkL] at hb
    cases h : Nat.beq 0 b with
    | false => rw [h] at hb; cases hb
    | true =>
      rw [h] at hb
      cases hb
      have := beq_iff.1 h; subst this
      refine ⟨_, Tr.get_set_self _ _ _, .inr ⟨_, _, _, _, _, rfl, rfl, fun h => h, fun k v hk => by rw [mk_get, repL_enc]; exact hk, enc_plain secL_plain _⟩⟩
def dev0 (N : Nat) (m : Int) : Dv := ⟨N, List.replicate N zeroS, fun _ => 0, m, false, 0, false, 0⟩
theorem dnew_ctr {N : Nat} {m : Int} (h1 : 1 ≤ N) (h2 : N ≤ 4096) (h3 : 1 ≤ m) (h4 : m ≤ 8) : Ctr Try.prog 30 [iv (N : Int), iv m] [] (.tuple #[pt 0 0, iv 0]) (devH (dev0 N m) false) := by
  exact pth (denQ [.int .i64 ((N : Int)), .int .i64 (m)] rfl [.v (.slice (some ⟨0, 0, none⟩) N N)] rfl [enc secL (List.replicate N zeroS)] (PL.cons (enc_plain secL_plain _) no_rows)) ⟨[(.bin .lss 3 (sv 0) (.int .i64 1), .bool false), (.bin .gtr 3 (sv 0) (.int .i64 4096), .bool false), (.bin .lss 3 (sv 1) (.int .i64 1), .bool false), (.bin .gtr 3 (sv 1) (.int .i64 8), .bool false)], [], [([92, 1000002], ⟨[sv 0, sv 0], 0, [], [], [(0, .orow 114 0 false)], .chan (some 0)⟩)]⟩ [] ⟨qF (((N : Int)) < (1)) (by omega), qF (((N : Int)) > (4096)) (by omega), qF ((m) < (1)) (by omega), qF ((m) > (8)) (by omega), trivial⟩ trivial ⟨mk' (mkSec (n := N) (by omega) (by omega)), trivial⟩ trivial 0 ([]) [sv 0, sv 1] [(1, 0), (0, 1)]
end Go.Proofs.Ytpennfojidpmeaa
namespace Go.Proofs.Ytpennfojidpmeaa
open Go.Sx
set_option maxRecDepth 20000
def devI (N : Nat) (m : Int) (i : Nat) : Dv := ⟨N, List.replicate N zeroS, fun k => if k < i then 1 else 0, m, false, 0, false, i⟩
theorem devI_ok {N : Nat} {m : Int} {i : Nat} (h1 : 1 ≤ N ∧ N ≤ 4096) (h2 : 1 ≤ m ∧ m ≤ 8) (h3 : (i : Int) ≤ m) : DOK (devI N m i) where
  len := List.length_replicate
  nb := h1
  nd := h2
  ep k := by show 0 ≤ (if k < i then (1 : Int) else 0) ∧ (if k < i then (1 : Int) else 0) ≤ _; split <;> omega
  dn := by show (0 : Int) ≤ i ∧ (i : Int) ≤ _; omega
  by' s hs := by rw [List.eq_of_mem_replicate hs]; intro i; exact ⟨Int.le_refl _, show (0 : Int) < 256 by decide⟩
theorem devI_0 (N : Nat) (m : Int) : devI N m 0 = dev0 N m := by
  unfold devI dev0
  simp
theorem devI_up {N : Nat} {m : Int} {i : Nat} (h1 : 1 ≤ N ∧ N ≤ 4096) (h2 : 1 ≤ m ∧ m ≤ 8) (h3 : (i : Int) < m) : Ctr Try.prog 27 [pt 0 0, iv (i : Int)] (devH (devI N m i) false) (.tuple #[iv ((devI N m i).e i + 1), iv 0]) (devH (devI N m (i + 1)) false) := by
  have h := dup_ctr (devI_ok h1 h2 (i := i) (by omega)) (n := (i : Int)) ⟨by omega, h3⟩ rfl (by show (if _ then (1 : Int) else 0) < _; split <;> omega)
  have e : ({ devI N m i with e := upd (devI N m i).e (i : Int).toNat ((devI N m i).e (i : Int).toNat + 1), done := (devI N m i).done + 1 } : Dv) = devI N m (i + 1) := by
    have he : upd (devI N m i).e (i : Int).toNat ((devI N m i).e (i : Int).toNat + 1) = (devI N m (i + 1)).e := by
      funext k
      simp only [devI, upd, Int.toNat_natCast]
      by_cases hk : k = i
      · subst hk; simp
      · rw [if_neg hk]
        by_cases hk2 : k < i
        · rw [if_pos hk2, if_pos (by omega)]
        · rw [if_neg hk2, if_neg (by omega)]
    rw [he]
    rfl
  rw [e] at h
  exact h
noncomputable abbrev dNw (N : Nat) (j : Jb) (i : Nat) : Den := denQ (jobL j ++ [iv (i : Int)] ++ devC (devI N j.nodes i)) rfl [.v (.slice (some ⟨2, 0, none⟩) N N)] rfl [enc secL (devI N j.nodes i).S] (PL.cons (enc_plain secL_plain _) no_rows)
noncomputable def xNw : Cfg := headC (hd 14 0) .normal [(1, pt 0 0), (3, pt 1 0), (5, sv 5)] 26 3 [(0, .row 24 (.lst (svs 0 5)) false), (1, .row 95 (.lst (ch 0 :: svs 6 13)) false), (2, .orow 114 0 false)]
def devN (j : Jb) : Dv := devI (sects j).toNat j.nodes j.nodes.toNat
section
variable {N : Nat} {j : Jb} {i : Nat}
abbrev GNw (N : Nat) (j : Jb) (i : Nat) : Prop := GoodS (dNw N j i) Try.prog 14 [] (pt 0 0) (devH (devI N j.nodes j.nodes.toNat) false) [] xNw
theorem new_end (hj : MayJ j) : GNw N j j.nodes.toNat := by
  have hn := hj.n
  generalize hi : j.nodes.toNat = i
  have : (i : Int) = j.nodes := by omega
  unfold GNw
  rw [hi]
  · exact gF (denQ (jobL j ++ [.int .i64 ((i : Int))] ++ devC (devI N j.nodes i)) rfl [.v (.slice (some ⟨2, 0, none⟩) N N)] rfl [enc secL (devI N j.nodes i).S] (PL.cons (enc_plain secL_plain _) no_rows)) ⟨[(.bin .lss 3 (sv 5) (sv 0), .bool false)], [], []⟩ [] ⟨qF (((i : Int)) < (j.nodes)) (by omega), trivial⟩ trivial trivial trivial 10 [(1, 0), (2, 1)]
theorem new_step (hj : MayJ j) (h1 : 1 ≤ N ∧ N ≤ 4096) (hi : (i : Int) < j.nodes) (hg : GNw N j (i + 1)) : GNw N j i := by
  have hn := hj.n
  have hup := devI_up h1 (m := j.nodes) (by omega) hi
  · exact gS (denQ (jobL j ++ [.int .i64 ((i : Int))] ++ devC (devI N j.nodes i) ++ devC (devI N j.nodes (i + 1)) ++ [.int .i64 (((devI N j.nodes i).e i + 1)), .int .i64 (((i : Int)) + (1))]) rfl [.v (.slice (some ⟨2, 0, none⟩) N N)] rfl [enc secL (devI N j.nodes i).S, enc secL (devI N j.nodes (i + 1)).S] (PL.cons (enc_plain secL_plain _) (PL.cons (enc_plain secL_plain _) no_rows))) (dNw N j (i + 1)) ⟨[(.bin .lss 3 (sv 5) (sv 0), .bool true), (.bin .add 3 (sv 5) (.int .i64 1), sv 33)], [], []⟩ [(27, [⟨[.pointer (some ⟨1, 0, none⟩), sv 5], 3, [], [⟨1, 0, false, .row 95 (.lst ([.chan (some 0)] ++ svs 6 13)) false, .row 95 (.lst ([.chan (some 0)] ++ svs 19 13)) false⟩, ⟨2, 1, false, .orow 114 0 false, .orow 114 1 false⟩], [], .tuple #[sv 32, .int .i64 0]⟩])] ⟨qT (((i : Int)) < (j.nodes)) (by omega), aq (.int .i64 (((i : Int)) + (1))) (.int .i64 (IntKind.i64.wrap (((i : Int)) + (1)))) (wVi64 (((i : Int)) + (1)) (by omega) (by omega)), trivial⟩ trivial trivial ⟨oe hup, trivial⟩ 10 [(0, 0), (1, 1), (2, 2)] hg
theorem new_all (hj : MayJ j) (h1 : 1 ≤ N ∧ N ≤ 4096) : ∀ (k i : Nat), i + k = j.nodes.toNat → GNw N j i
  | 0, i, h => by rw [show i = j.nodes.toNat by omega]; exact new_end hj
  | k + 1, i, h => new_step hj h1 (by have := hj.n; omega) (new_all hj h1 k (i + 1) (by omega))
theorem new_ctr (hj : MayJ j) : Ctr Try.prog 14 [jobV j] [] (pt 0 0) (devH (devN j) false) := by
  have hb := sects_bd hj
  unfold devN
  generalize hN : (sects j).toNat = N
  have hg := new_all (N := N) hj (by omega) j.nodes.toNat 0 (by omega)
  have hsec : Ctr Try.prog 31 [jobV j] [] (iv (N : Int)) [] := by rw [show (N : Int) = sects j by omega]; exact sectorsR_ctr hj
  have hnew := dnew_ctr (N := N) (m := j.nodes) (by omega) (by omega) (by have := hj.n; omega) hj.n.2
  rw [← devI_0] at hnew
  · exact g0 (denQ (jobL j ++ [.int .i64 ((N : Int))] ++ devC (devI N j.nodes 0)) rfl [.v (.slice (some ⟨2, 0, none⟩) N N)] rfl [enc secL (devI N j.nodes 0).S] (PL.cons (enc_plain secL_plain _) no_rows)) (dNw N j 0) ⟨[], [], []⟩ [(31, [⟨[.agg #[sv 0, sv 1, sv 2, sv 3, sv 4]], 1, [], [], [], sv 5⟩]), (30, [⟨[sv 5, sv 0], 1, [], [], [(0, .row 95 (.lst (ch 0 :: svs 6 13)) false), (1, .orow 114 0 false)], .tuple #[.pointer (some ⟨1, 0, none⟩), .int .i64 0]⟩])] trivial trivial trivial ⟨oe hsec, oe hnew, trivial⟩ 13 0 [] [vA 0 5] [(0, 0), (1, 1), (2, 2)] hg
end
end Go.Proofs.Ytpennfojidpmeaa
namespace Go.Sx
variable {P : Program}
theorem Ctr.weak {g : FuncId} {args : List Value} {A B : HL} {i o : Nat} (h : Ctr P g args A (.slice (some ⟨i, o, none⟩) 0 0) B) : Ctr P g args A (.slice none 0 1) [] :=
  ⟨h.1, fun w F E args' hr hl Fe n hW => (h.2 w F E args' hr hl Fe n hW).mono fun e w' ⟨v', E', k1, k2, k3, k4⟩ => by
    refine ⟨v', fun i => if (lkL ([] : HL) i).isSome = true then E' i else none, k1, fun i x _ hb => absurd hb (by simp [lkL]), HR0.pick (B := []) k3 (fun b o hb => absurd hb (by simp [lkL])), ?_⟩
    cases k4 with
    | sl h1 h2 h3 => exact @VR.weS den0 _ _⟩
theorem Ctr.weakN {g : FuncId} {args : List Value} {A B : HL} (h : Ctr P g args A (.slice none 0 0) B) : Ctr P g args A (.slice none 0 1) [] :=
  ⟨h.1, fun w F E args' hr hl Fe n hW => (h.2 w F E args' hr hl Fe n hW).mono fun e w' ⟨v', E', k1, k2, k3, k4⟩ => by
    refine ⟨v', fun i => if (lkL ([] : HL) i).isSome = true then E' i else none, k1, fun i x _ hb => absurd hb (by simp [lkL]), HR0.pick (B := []) k3 (fun b o hb => absurd hb (by simp [lkL])), ?_⟩
    cases k4
    exact @VR.weS den0 _ _⟩
theorem Ctr.ofWeak {g : FuncId} (h0 : Ctr P g [.slice none 0 0] [] (.slice none 0 1) []) (h1 : Ctr P g [.slice (some ⟨1, 0, none⟩) 0 0] [(1, .dead)] (.slice none 0 1) []) : Ctr P g [.slice none 0 1] [] (.slice none 0 1) [] := by
  refine ⟨h0.1, fun w F E args' hr hl Fe n hW => ?_⟩
  obtain ⟨v, vs, rfl, hv, hvs⟩ := @LR.cons_inv den0 _ _ _ _ hl
  have := @LR.nil_inv den0 _ _ hvs
  subst this
  cases hv with
  | weS b =>
    cases b with
    | none => exact h0.2 w F E _ hr (@LR.cons den0 _ _ _ _ _ (@VR.nilS den0 E) hvs) Fe n hW
    | some a =>
      let E2 : Env := fun i => if i = 1 then some ⟨0, 0, 0⟩ else none
      have hr2 : HR0 P w F E2 (ofL [(1, .dead)]) w := by
        refine @HR.mk den0 _ _ _ _ _ _ (@HR.keeps den0 _ _ _ _ _ _ hr) (fun i x hx => ?_) (fun i o ho => ?_) (fun i j o p x y hne ho hp hlo hlp hw hx hy => ?_) (fun i o x ho hw hx => ?_)
        · by_cases hi : i = 1
          · subst hi; rw [get_ofL]; simp [lkL]
          · simp only [E2, if_neg hi] at hx; cases hx
        · rw [get_ofL] at ho
          simp only [lkL] at ho
          cases hq : Nat.beq 1 i <;> rw [hq] at ho <;> cases ho
          trivial
        · rw [get_ofL] at ho
          simp only [lkL] at ho
          cases hq : Nat.beq 1 i <;> rw [hq] at ho <;> cases ho
          cases hlo
        · rw [get_ofL] at ho
          simp only [lkL] at ho
          cases hq : Nat.beq 1 i <;> rw [hq] at ho <;> cases ho
          cases hw
      have hv2 : VR0 E2 (.slice (some ⟨1, 0, none⟩) 0 0) (.slice (some a) 0 0) := @VR.sl den0 E2 1 0 0 0 ⟨0, 0, 0⟩ a (by simp [E2]) (Nat.zero_le _) (.inr rfl)
      refine (h1.2 w F E2 _ hr2 (@LR.cons den0 _ _ _ _ _ hv2 (@LR.nil den0 E2)) Fe n hW).mono fun e w' ⟨v', E', k1, k2, k3, k4⟩ => ?_
      exact ⟨v', E', k1, fun i x _ hb => absurd hb (by simp [lkL]), k3, k4⟩
theorem appE {st xt e : TypeId} {k b : Nat} {z : Value} (ht : ElemT P st xt e k b z) {o cp : Nat} : AppC P [st, xt] [.slice (some ⟨0, 0, none⟩) 0 0, .slice (some ⟨1, o, none⟩) 0 cp] [(0, .row e (.lst []) false), (1, .dead)] (.slice (some ⟨0, 0, none⟩) 0 0) [(0, .row e (.lst []) false), (1, .dead)] := by
  refine AppC.of_run (c := 2) (c' := 2) (H' := ofL [(0, .row e (.lst []) false), (1, .dead)]) ?_ (fun b o hb => ?_) rfl
  · unfold appendA
    exact Run.bind (Run.opt ht.el) (Run.bind (Run.opt ht.sz) (Run.bind (Run.opt ht.by') (Run.bind (Run.opt ht.ze) (Run.bind (Run.guard ht.ok) (Run.bind (Run.opt rfl) Run.pure)))))
  · refine ⟨o, by rw [get_ofL]; exact hb, ?_⟩
    simp only [lkL] at hb
    cases hq : Nat.beq 0 b with
    | true => rw [hq] at hb; cases hb; exact .inr ⟨_, _, _, _, _, rfl, rfl, fun h => h, fun k v hk => hk, rfl⟩
    | false =>
      rw [hq] at hb
      cases hq2 : Nat.beq 1 b with
      | true => rw [hq2] at hb; cases hb; exact .inl rfl
      | false => rw [hq2] at hb; cases hb
theorem asEqS {d : Den} {t e : TypeId} {i n c : Nat} {a : Addr} (hu : P.underlying t = some (.slice e)) (ho : d.o i = .slice (some a) n c) : @AK.Ok d P (.bin .eql t (.chan (some i)) (.slice none 0 0)) (.bool false) := asEqN hu ho (fun h => by cases h)
end Go.Sx
namespace Go.Proofs.Ytpennfojidpmeaa
open Go.Sx
set_option maxRecDepth 20000
theorem appCl {α : Type} {f : α → List Value} {k b : Nat} {st xt e : TypeId} {z : Value} (ht : ElemT Try.prog st xt e k b z) (hf : ∀ a, (f a).length = k) (hp : ∀ a, (f a).all plainS = true) {S : List α} {i m cp : Nat} {T Tb : TypeId} (hm : 1 ≤ m) (hi : i + m = S.length) (hb : m * b ≤ 70368744177664 ∧ m < HALF) :
    AppC Try.prog [st, xt] [.slice (some ⟨0, 0, none⟩) 0 0, .slice (some ⟨1, i * k, none⟩) m cp] [(0, .row Tb (.lst []) true), (1, .row T (.lst (enc f S)) true)] (.slice (some ⟨2, 0, none⟩) m INF) [(2, .row e (.lst (enc f (S.drop i))) false)] := by
  have hl : i * k + m * k = (enc f S).length := by rw [enc_len hf, ← hi, Nat.add_mul]
  have h := AppC.cap (P := Try.prog) ht (bl := []) (l := enc f S) (n := 0) (m := m) (off := i * k) (cp := cp) (T := T) (Tb := Tb) (by simp) rfl hm (by omega) (enc_plain hp _) (by rw [Nat.zero_add]; exact hb.1) (by rw [Nat.zero_add]; exact hb.2)
  rw [Nat.zero_add, List.nil_append, enc_drop hf, List.take_of_length_le (by rw [enc_len hf, List.length_drop, ← hi, Nat.add_sub_cancel_left]; exact Nat.le_refl _)] at h
  exact h
theorem etS : ElemT Try.prog 92 92 114 64 64 (secV zeroS) := ⟨by kernel_rfl, by kernel_rfl, by kernel_rfl, by kernel_rfl, by kernel_rfl⟩
theorem etR : ElemT Try.prog 43 43 47 101 136 (recV zeroR) := ⟨by kernel_rfl, by kernel_rfl, by kernel_rfl, by kernel_rfl, by kernel_rfl⟩
theorem cloneS_ctr {S : List Sec} {i m cp : Nat} (hm : 1 ≤ m) (hi : i + m = S.length) (hb : m * 64 ≤ 70368744177664 ∧ m < HALF) : Ctr Try.prog 150 [.slice (some ⟨1, i * 64, none⟩) m cp] [(1, .row 114 (.lst (enc secL S)) true)] (.slice (some ⟨2, 0, none⟩) m INF) [(2, .row 114 (.lst (enc secL (S.drop i))) false)] := by
  exact pth (denQ [] rfl [.v (.slice (some ⟨1, i * 64, none⟩) m cp), .v (.slice (some ⟨3, 0, none⟩) m INF)] rfl [enc secL S, enc secL (S.drop i)] (PL.cons (enc_plain secL_plain _) (PL.cons (enc_plain secL_plain _) no_rows))) ⟨[(.bin .eql 92 (.chan (some 0)) (.slice none 0 0), .bool false)], [], [([92, 92], ⟨[.slice (some ⟨2, 0, none⟩) 0 0, .chan (some 0)], 3, [], [⟨2, 0, true, .row 114 (.lst []) false, .row 114 (.lst []) false⟩, ⟨1, 1, true, .orow 114 0 true, .orow 114 0 true⟩], [(2, .orow 114 1 false)], .chan (some 1)⟩)]⟩ [] ⟨asEqS u92 rfl, trivial⟩ trivial ⟨ap (appCl (S := S) (i := i) (m := m) (cp := cp) (T := 114) (Tb := 114) etS secL_len secL_plain hm hi hb), trivial⟩ trivial 2 ([(1, .orow 114 0 true)]) [ch 0] [(3, 2)]
theorem cloneR_ctr {S : List Rec} {i m cp : Nat} (hm : 1 ≤ m) (hi : i + m = S.length) (hb : m * 136 ≤ 70368744177664 ∧ m < HALF) : Ctr Try.prog 68 [.slice (some ⟨1, i * 101, none⟩) m cp] [(1, .row 47 (.lst (enc recL S)) true)] (.slice (some ⟨2, 0, none⟩) m INF) [(2, .row 47 (.lst (enc recL (S.drop i))) false)] := by
  exact pth (denQ [] rfl [.v (.slice (some ⟨1, i * 101, none⟩) m cp), .v (.slice (some ⟨3, 0, none⟩) m INF)] rfl [enc recL S, enc recL (S.drop i)] (PL.cons (enc_plain recL_plain _) (PL.cons (enc_plain recL_plain _) no_rows))) ⟨[(.bin .eql 43 (.chan (some 0)) (.slice none 0 0), .bool false)], [], [([43, 43], ⟨[.slice (some ⟨2, 0, none⟩) 0 0, .chan (some 0)], 3, [], [⟨2, 0, true, .row 47 (.lst []) false, .row 47 (.lst []) false⟩, ⟨1, 1, true, .orow 47 0 true, .orow 47 0 true⟩], [(2, .orow 47 1 false)], .chan (some 1)⟩)]⟩ [] ⟨asEqS u43 rfl, trivial⟩ trivial ⟨ap (appCl (S := S) (i := i) (m := m) (cp := cp) (T := 47) (Tb := 47) etR recL_len recL_plain hm hi hb), trivial⟩ trivial 2 ([(1, .orow 47 0 true)]) [ch 0] [(3, 2)]
theorem cloneR_nil : Ctr Try.prog 68 [.slice none 0 0] [] (.slice none 0 0) [] := by
  exact pth (denQ [] rfl [] rfl [] no_rows) ⟨[], [], []⟩ [] trivial trivial trivial trivial 0 ([]) [.slice none 0 0] []
theorem cloneR_emp {o cp : Nat} : Ctr Try.prog 68 [.slice (some ⟨1, o, none⟩) 0 cp] [(1, .dead)] (.slice none 0 1) [] := by
  refine Ctr.weak (i := 2) (o := 0) (B := [(2, .row 47 (.lst []) false)]) ?_
  exact pth (denQ [] rfl [.v (.slice (some ⟨1, o, none⟩) 0 cp)] rfl [] no_rows) ⟨[(.bin .eql 43 (.chan (some 0)) (.slice none 0 0), .bool false)], [], [([43, 43], ⟨[.slice (some ⟨2, 0, none⟩) 0 0, .chan (some 0)], 3, [(1, 1)], [⟨2, 0, false, .row 47 (.lst []) false, .row 47 (.lst []) false⟩], [], .slice (some ⟨2, 0, none⟩) 0 0⟩)]⟩ [] ⟨asEqS u43 rfl, trivial⟩ trivial ⟨ap (appE (o := o) (cp := cp) etR), trivial⟩ trivial 2 ([(1, .dead)]) [ch 0] [(2, 2)]
theorem cloneR_weak : Ctr Try.prog 68 [.slice none 0 1] [] (.slice none 0 1) [] := Ctr.ofWeak (Ctr.weakN cloneR_nil) cloneR_emp
end Go.Proofs.Ytpennfojidpmeaa
namespace Go.Sx
variable {P : Program}
theorem Ctr.ptrOnly {g : FuncId} {args : List Value} {A B : HL} {i o : Nat} (h : Ctr P g args A (.pointer (some ⟨i, o, none⟩)) B) (hi : (lkL B i).isSome = true) : Ctr P g args A (.pointer (some ⟨i, o, none⟩)) [(i, .dead)] :=
  ⟨h.1, fun w F E args' hr hl Fe n hW => (h.2 w F E args' hr hl Fe n hW).mono fun e w' ⟨v', E', k1, k2, k3, k4⟩ => by
    have hq : ∀ b o, lkL [(i, AObj.dead)] b = some o → b = i ∧ o = .dead := fun b o hb => by
      simp only [lkL] at hb
      cases hq : Nat.beq i b with
      | true => rw [hq] at hb; cases hb; exact ⟨(beq_iff.1 hq).symm, rfl⟩
      | false => rw [hq] at hb; cases hb
    have hii : (lkL [(i, AObj.dead)] i).isSome = true := by simp [lkL]
    refine ⟨v', fun b => if (lkL [(i, AObj.dead)] b).isSome = true then E' b else none, k1, fun b x hx hb => ?_, HR0.pick (B := [(i, .dead)]) k3 (fun b o hb => ?_), ?_⟩
    · show (if (lkL [(i, AObj.dead)] b).isSome = true then E' b else none) = _
      rw [if_pos hb]
      obtain ⟨o, ho⟩ := Option.isSome_iff_exists.1 hb
      obtain ⟨rfl, _⟩ := hq b o ho
      exact k2 _ x hx hi
    · obtain ⟨rfl, rfl⟩ := hq b o hb
      obtain ⟨p, hp⟩ := Option.isSome_iff_exists.1 hi
      exact ⟨p, by rw [get_ofL]; exact hp, .inl rfl⟩
    · cases k4 with
      | ptr h1 => exact @VR.ptr den0 _ _ _ _ (by show (if (lkL [(i, AObj.dead)] i).isSome = true then E' i else none) = _; rw [if_pos hii]; exact h1)⟩
theorem ghostD [Den] {w0 : World} {F : Nat → Prop} {E : Env} {B : HL} {w : World} (hr : HR P w0 F E (ofL B) w) (b : Nat) (hb : lkL B b = none) (T j : Nat) (ro : Bool) (hj : Den.row j = []) : HR P w0 F E (ofL (B ++ [(b, .mrow T j ro)])) w := by
  have hEb : E b = none := by
    cases hx : E b with
    | none => rfl
    | some x => have := hr.dom b x hx; rw [get_ofL, hb] at this; exact absurd rfl this
  have hget : ∀ i, (ofL (B ++ [(b, .mrow T j ro)])).get i = (match lkL B i with
      | some o => some o
      | none => lkL [(b, .mrow T j ro)] i) := fun i => by rw [get_ofL, lkL_app]; cases lkL B i <;> rfl
  have old : ∀ {i : Nat} {o : AObj}, (ofL (B ++ [(b, .mrow T j ro)])).get i = some o → (ofL B).get i = some o ∨ (i = b ∧ o = .mrow T j ro) := by
    intro i o ho
    rw [hget] at ho
    cases hx : lkL B i with
    | some p => rw [hx] at ho; cases ho; exact .inl (by rw [get_ofL]; exact hx)
    | none =>
      rw [hx] at ho
      simp only [lkL] at ho
      cases hb2 : Nat.beq b i with
      | false => rw [hb2] at ho; cases ho
      | true => rw [hb2] at ho; cases ho; exact .inr ⟨(beq_iff.1 hb2).symm, rfl⟩
  refine ⟨hr.keeps, fun i x hx => ?_, fun i o ho => ?_, fun i j o p x y hne2 ho hp hlo hlp hw hx hy => ?_, fun i o x ho hw hx => ?_⟩
  · rw [hget]
    have := hr.dom i x hx
    rw [get_ofL] at this
    cases h5 : lkL B i with
    | none => exact absurd h5 this
    | some o => simp
  · rcases old ho with h | ⟨rfl, rfl⟩
    · exact hr.obj i o h
    · exact .inl ⟨hEb, hj⟩
  · rcases old ho with h | ⟨rfl, rfl⟩
    · rcases old hp with h2 | ⟨rfl, rfl⟩
      · exact hr.inj i j o p x y hne2 h h2 hlo hlp hw hx hy
      · rw [hEb] at hy; cases hy
    · rw [hEb] at hx; cases hx
  · rcases old ho with h | ⟨rfl, rfl⟩
    · exact hr.own i o x h hw hx
    · rw [hEb] at hx; cases hx
theorem goodS_ghost {d : Den} {g : FuncId} {A B : HL} {res : Value} {an : List Nat} {k : List KI} {e : Exit} {fv : FV} {n c : Nat} {A2 : HL} {b T j : Nat} {ro : Bool} (hg : GoodS d P g A res B an (headC k e fv n c (A2 ++ [(b, .mrow T j ro)]))) (hb : lkL A2 b = none) (hj : d.row j = []) : GoodS d P g A res B an (headC k e fv n c A2) :=
  ⟨fun fn hfn w F E0 Fe n hW hA E a w' han hf hr => hg.get fn hfn w F E0 Fe n hW hA E a w' han hf (@ghostD P d _ _ _ _ _ hr b hb T j ro hj)⟩
def slotsOK [Den] : FV → FV → Prop
  | [], [] => True
  | (k, v) :: l, (k', v') :: l' => k = k' ∧ (v' = v ∨ ∃ i, v = .chan (some i) ∧ Den.o i = v') ∧ slotsOK l l'
  | _, _ => False
theorem slots_get [Den] : ∀ {l l' : FV}, slotsOK l l' → ∀ {k : Nat} {v : Value}, lkV l k = some v → ∃ v', lkV l' k = some v' ∧ (v' = v ∨ ∃ i, v = .chan (some i) ∧ Den.o i = v')
  | [], [], _, k, v, h => by cases h
  | (i, u) :: l, (i', u') :: l', ⟨h1, h2, h3⟩, k, v, h => by
    subst h1
    simp only [lkV] at h ⊢
    cases hb : Nat.beq i k with
    | true => rw [hb] at h; cases h; exact ⟨_, rfl, h2⟩
    | false => rw [hb] at h; exact slots_get h3 h
  | [], _ :: _, h, _, _, _ => h.elim
  | _ :: _, [], h, _, _, _ => h.elim
theorem goodS_slots {d : Den} {g : FuncId} {A B : HL} {res : Value} {an : List Nat} {k : List KI} {e : Exit} {fv fv' : FV} {n c : Nat} {A2 : HL} (hs : @slotsOK d fv fv') (hg : GoodS d P g A res B an (headC k e fv n c A2)) : GoodS d P g A res B an (headC k e fv' n c A2) :=
  ⟨fun fn hfn w F E0 Fe m hW hA E a w' han hf hr => hg.get fn hfn w F E0 Fe m hW hA E a w' han (by
    have e1 := @FR.defers d _ _ _ _ hf
    have e2 := @FR.ro d _ _ _ _ hf
    refine @FR.mk d _ _ _ _ e1 e2 ?_
    have ht := @FR.tr d _ _ _ _ hf
    have e3 := @TR.size d _ _ _ ht
    refine @TR.mk d _ _ _ e3 fun q v hq => ?_
    have hq2 : lkV fv q = some v := by rw [← get_ofV]; exact hq
    obtain ⟨v', h1, h2⟩ := slots_get hs hq2
    obtain ⟨h3, h4⟩ := @TR.val d _ _ _ ht q v' (by show (ofV fv').get q = _; rw [get_ofV]; exact h1)
    rcases h2 with h2 | ⟨i, rfl, h2⟩
    · exact ⟨h3, h2 ▸ h4⟩
    · exact ⟨h3, @VR.opq d _ i _ (h2 ▸ h4)⟩) hr⟩
theorem app_nilG {q : Nat} (hq : Nat.ble q 1 = true) {st xt e : TypeId} {size bytes : Nat} {z : Value} (ht : ElemT P st xt e size bytes z) (o0 : AObj) {l : List Value} {m off cp : Nat} {T : TypeId} (hm : 1 ≤ m) (hl : off + m * size ≤ l.length) (hp : l.all plainS = true) (h1 : m * bytes ≤ 70368744177664) (h2 : m < HALF) :
    AppC P [st, xt] [.slice none 0 q, .slice (some ⟨1, off, none⟩) m cp] [(0, o0), (1, .row T (.lst l) true)] (.slice (some ⟨2, 0, none⟩) m INF) [(0, .dead), (2, .row e (.lst ((l.drop off).take (m * size))) false)] := by
  refine AppC.of_run (app_nil hq (H := ofL [(0, o0), (1, .row T (.lst l) true)]) (c := 2) ht (by rw [get_ofL]; rfl) (by rw [get_ofL]; rfl) hm hl hp h1 h2) (fun b o hb => ?_) rfl
  simp only [lkL] at hb
  cases h0 : Nat.beq 0 b with
  | true =>
    rw [h0] at hb
    cases hb
    have := beq_iff.1 h0; subst this
    exact ⟨o0, by rw [Tr.get_set_ne _ _ (by omega), get_ofL]; rfl, .inl rfl⟩
  | false =>
    rw [h0] at hb
    simp only [cond_false] at hb
    cases h : Nat.beq 2 b with
    | false => rw [h] at hb; cases hb
    | true =>
      rw [h] at hb
      cases hb
      have := beq_iff.1 h; subst this
      refine ⟨_, Tr.get_set_self _ _ _, .inr ⟨_, _, _, _, _, rfl, rfl, fun h => h, fun k v hk => by rw [mk_get]; exact hk, ?_⟩⟩
      rw [List.all_eq_true] at hp ⊢
      exact fun x hx => hp x (List.mem_of_mem_drop (List.mem_of_mem_take hx))
end Go.Sx
namespace Go.Proofs.Ytpennfojidpmeaa
open Go.Sx
set_option maxRecDepth 20000
theorem dcopy_ctr {d : Dv} (hd : DOK d) : Ctr Try.prog 114 [pt 0 0] (devH d true) (pt 2 0) [(2, .dead)] := by
  refine Ctr.ptrOnly (B := [(2, .row 95 (.lst (.slice (some ⟨3, 0, none⟩) d.n INF :: devC d)) false), (3, .row 114 (.lst (enc secL d.S)) false)]) ?_ rfl
  have ⟨g1, g2⟩ := hd.nd
  have hcl := cloneS_ctr (S := d.S) (i := 0) (m := d.n) (cp := d.n) hd.nb.1 (by rw [hd.len, Nat.zero_add]) (by have := hd.nb; unfold HALF; omega)
  exact pth (denQ (devC d) rfl [.v (.slice (some ⟨1, 0, none⟩) d.n d.n), .v (.slice (some ⟨3, 0, none⟩) d.n INF)] rfl [enc secL d.S, enc secL d.S] (PL.cons (enc_plain secL_plain _) (PL.cons (enc_plain secL_plain _) no_rows))) ⟨[(.bin .gtr 3 (sv 8) (.int .i64 0), .bool true)], [], []⟩ [(150, [⟨[.chan (some 0)], 3, [], [⟨1, 1, true, .orow 114 0 true, .orow 114 0 true⟩], [(2, .orow 114 1 false)], .chan (some 1)⟩])] ⟨qT ((d.nd) > (0)) (by omega), trivial⟩ trivial trivial ⟨oe hcl, trivial⟩ 2 ([(0, .row 95 (.lst (ch 0 :: svs 0 13)) true), (1, .orow 114 0 true)]) [pt 0 0] [(2, 2), (3, 3)]
theorem may_ctr {d : Dv} (hd : DOK d) {j : Jb} (hj : MayJ j) (hs : sects j = d.n) {n : Int} (hn : 0 ≤ n ∧ n < j.nodes) : Ctr Try.prog 60 [pt 0 0, jobV j, iv n] (devH d true) (iv 0) [] := by
  have ⟨g1, g2⟩ := hd.nd
  have hcopy := dcopy_ctr hd
  have hsec := sectors_ctr hj
  exact pth (denQ (jobL j ++ [.int .i64 (n)] ++ devC d ++ [.int .i64 (sects j), .int .i64 (d.n)]) rfl [.v (.slice (some ⟨1, 0, none⟩) d.n d.n)] rfl [enc secL d.S] (PL.cons (enc_plain secL_plain _) no_rows)) ⟨[(.bin .lss 3 (sv 5) (.int .i64 0), .bool false), (.bin .geq 3 (sv 5) (sv 0), .bool false), (.bin .gtr 3 (sv 14) (.int .i64 0), .bool true), (.len 92 (.chan (some 0)), sv 20), (.bin .lss 3 (sv 20) (sv 19), .bool false)], [], []⟩ [(114, [⟨[.pointer (some ⟨0, 0, none⟩)], 3, [], [⟨0, 0, true, .row 95 (.lst ([.chan (some 0)] ++ svs 6 13)) true, .row 95 (.lst ([.chan (some 0)] ++ svs 6 13)) true⟩, ⟨1, 1, true, .orow 114 0 true, .orow 114 0 true⟩], [(2, .dead)], .pointer (some ⟨3, 0, none⟩)⟩]), (115, [⟨[.agg #[sv 0, sv 1, sv 2, sv 3, sv 4]], 4, [], [], [], .tuple #[sv 19, .int .i64 0]⟩])] ⟨qF ((n) < (0)) (by omega), qF ((n) ≥ (j.nodes)) (by omega), qT ((d.nd) > (0)) (by omega), asLen u92 rfl (by kernel_rfl), qF ((d.n) < (sects j)) (by omega), trivial⟩ trivial trivial ⟨oe hcopy, oe hsec, trivial⟩ 2 ([(0, .row 95 (.lst (ch 0 :: svs 6 13)) true), (1, .orow 114 0 true)]) [pt 0 0, vA 0 5, sv 5] []
def max1 (y : Int) : Int := if y > 1 then y else 1
theorem appR (L : List Rec) (x : Rec) (cp : Nat) (hl : L.length < 1000000) {z : Nat} (hz : Nat.ble z 1 = true := by rfl) : AppC Try.prog [43, 43] [mSl 0 L.length INF z, .slice (some ⟨1, 0, none⟩) 1 cp] [(0, rowOr 47 (enc recL L) false), (1, .row 47 (.lst (recL x)) true)] (mSl 2 (L ++ [x]).length INF z) [(0, .dead), (2, rowOr 47 (enc recL (L ++ [x])) false)] := by
  cases L with
  | nil =>
    have h := app_nilG (P := Try.prog) (q := z) hz etR (rowOr 47 (enc recL []) false) (l := recL x) (m := 1) (off := 0) (cp := cp) (T := 47) (by decide) (by rw [recL_len]; decide) (recL_plain x) (by decide) (by unfold HALF; decide)
    exact h
  | cons y r =>
    have h := AppC.inf (P := Try.prog) etR (bl := enc recL (y :: r)) (l := recL x) (n := (y :: r).length) (m := 1) (off := 0) (cp := cp) (T := 47) (enc_len recL_len _) (enc_plain recL_plain _) (by decide) (by rw [recL_len]; decide) (recL_plain x) (by omega) (by unfold HALF; omega)
    have e : enc recL (y :: r) ++ ((recL x).drop 0).take (1 * 101) = enc recL ((y :: r) ++ [x]) := by rw [enc_app]; rfl
    rw [e] at h
    have e2 : (y :: r).length + 1 = ((y :: r) ++ [x]).length := by simp
    rw [e2] at h
    exact h
noncomputable def scanL (d : Dv) (j : Jb) (n : Int) : Nat → Int → Int → List Rec
  | 0, _, _ => []
  | k + 1, m, le => if m < 2147483647 then (match getM (gt d.S (recAt j n m).toNat) (gt d.S (recAt j n m + 1).toNat) with
    | some r => if r.node = n ∧ r.lsn = m ∧ le ≤ r.epoch ∧ r.page < j.pages then r :: scanL d j n k (m + 1) r.epoch else []
    | none => []) else []
noncomputable abbrev dSc (d : Dv) (j : Jb) (n s e : Int) (out : List Rec) (l : Rec) (m : Int) : Den := denQ (jobL j ++ [iv n, iv s, iv e] ++ recL l ++ [iv m] ++ devC d) rfl [.v (.slice (some ⟨1, 0, none⟩) d.n d.n), om 7 out.length INF] rfl [enc secL d.S, enc recL out] (PL.cons (enc_plain secL_plain _) (PL.cons (enc_plain recL_plain _) no_rows))
def aSc : HL := [(0, .row 95 (.lst (ch 0 :: svs 110 13)) true), (1, .orow 114 0 true), (2, .row 26 (.lst [pt 0 0]) false), (3, .row 24 (.lst (svs 0 5)) false), (4, .row 3 (.lst [sv 5]) false), (5, .row 112 (.lst [sv 6, sv 7]) false), (6, .row 47 (.lst (svs 8 101)) false)]
def fSc (v : Value) : FV := [(3, pt 2 0), (4, pt 3 0), (5, pt 4 0), (13, pt 5 0), (15, .func (.func 117) #[] #[pt 3 0, pt 4 0, pt 2 0]), (16, pt 6 0), (17, v), (18, sv 109)]
noncomputable def xSc : Cfg := headC (hd 61 0) .normal (fSc (ch 1)) 109 8 (aSc ++ [(7, .mrow 47 1 false)])
abbrev GSc (d : Dv) (j : Jb) (n s e : Int) (out : List Rec) (l : Rec) (m : Int) (res : Value) (B : HL) : Prop := GoodS (dSc d j n s e out l m) Try.prog 61 (devH d true) res B [] xSc
section
variable {d : Dv} {j : Jb} {n s e m : Int} {out : List Rec} {l r : Rec} (hj : MayJ j) (hsb : 1 ≤ s ∧ s ≤ 2147483647)
include hj hsb
theorem sc_end (hm : m = s + j.log) : GSc d j n s e out l m (.tuple #[iv s, mSl 2 out.length INF 0, iv 0]) [(2, rowOr 47 (enc recL out) false)] := by
  have ⟨d1, d2⟩ := hj.l
  have hnb := hj.n
  · exact gF (denQ (jobL j ++ [.int .i64 (n), .int .i64 (s), .int .i64 (e)] ++ recL l ++ [.int .i64 (m)] ++ devC d ++ [.int .i64 ((s) + (j.log))]) rfl [.v (.slice (some ⟨1, 0, none⟩) d.n d.n), om 7 out.length INF] rfl [enc secL d.S, enc recL out] (PL.cons (enc_plain secL_plain _) (PL.cons (enc_plain recL_plain _) no_rows))) ⟨[(.bin .add 2 (sv 6) (sv 3), sv 123), (.bin .lss 2 (sv 109) (sv 123), .bool false)], [], []⟩ [] ⟨aq (.int .i64 ((s) + (j.log))) (.int .i64 (IntKind.i64.wrap ((s) + (j.log)))) (wVi64 ((s) + (j.log)) (by omega) (by omega)), qF ((m) < ((s) + (j.log))) (by omega), trivial⟩ trivial trivial trivial 11 [(7, 2)]
theorem sc_max (hm1 : m < s + j.log) (hm : 2147483647 ≤ m) : GSc d j n s e out l m (.tuple #[iv s, mSl 2 out.length INF 0, iv 0]) [(2, rowOr 47 (enc recL out) false)] := by
  have ⟨d1, d2⟩ := hj.l
  have hnb := hj.n
  · exact gF (denQ (jobL j ++ [.int .i64 (n), .int .i64 (s), .int .i64 (e)] ++ recL l ++ [.int .i64 (m)] ++ devC d ++ [.int .i64 ((s) + (j.log))]) rfl [.v (.slice (some ⟨1, 0, none⟩) d.n d.n), om 7 out.length INF] rfl [enc secL d.S, enc recL out] (PL.cons (enc_plain secL_plain _) (PL.cons (enc_plain recL_plain _) no_rows))) ⟨[(.bin .add 2 (sv 6) (sv 3), sv 123), (.bin .lss 2 (sv 109) (sv 123), .bool true), (.bin .lss 2 (sv 109) (.int .i64 2147483647), .bool false)], [], []⟩ [] ⟨aq (.int .i64 ((s) + (j.log))) (.int .i64 (IntKind.i64.wrap ((s) + (j.log)))) (wVi64 ((s) + (j.log)) (by omega) (by omega)), qT ((m) < ((s) + (j.log))) (by omega), qF ((m) < (2147483647)) (by omega), trivial⟩ trivial trivial trivial 11 [(7, 2)]
theorem sc_none (hn : 0 ≤ n ∧ n < j.nodes) (hk : 1 ≤ m ∧ m ≤ 2147483647) (hm1 : m < s + j.log) (hm2 : m < 2147483647)
    (h1 : Ctr Try.prog 103 [pt 0 0, iv (recAt j n m)] (devH d true) (.tuple #[secV (gt d.S (recAt j n m).toNat), iv 0]) []) (h2 : Ctr Try.prog 103 [pt 0 0, iv (recAt j n m + 1)] (devH d true) (.tuple #[secV (gt d.S (recAt j n m + 1).toNat), iv 0]) []) (hb : 9 ≤ recAt j n m ∧ recAt j n m ≤ 4096) (hG : Ctr Try.prog 105 [secV (gt d.S (recAt j n m).toNat), secV (gt d.S (recAt j n m + 1).toNat)] [] (.tuple #[recV zeroR, iv 12]) []) : GSc d j n s e out l m (.tuple #[iv s, mSl 2 out.length INF 0, iv 0]) [(2, rowOr 47 (enc recL out) false)] := by
  have ⟨d1, d2⟩ := hj.l
  have hnb := hj.n
  · exact gF (denQ (jobL j ++ [.int .i64 (n), .int .i64 (s), .int .i64 (e)] ++ recL l ++ [.int .i64 (m)] ++ devC d ++ [.int .i64 ((s) + (j.log)), .int .i64 (recAt j n m)] ++ secL (gt d.S (recAt j n m).toNat) ++ [.int .i64 ((recAt j n m) + (1))] ++ secL (gt d.S (recAt j n m + 1).toNat)) rfl [.v (.slice (some ⟨1, 0, none⟩) d.n d.n), om 7 out.length INF] rfl [enc secL d.S, enc recL out] (PL.cons (enc_plain secL_plain _) (PL.cons (enc_plain recL_plain _) no_rows))) ⟨[(.bin .add 2 (sv 6) (sv 3), sv 123), (.bin .lss 2 (sv 109) (sv 123), .bool true), (.bin .lss 2 (sv 109) (.int .i64 2147483647), .bool true), (.bin .add 3 (sv 124) (.int .i64 1), sv 189)], [], []⟩ [(64, [⟨[.agg #[sv 0, sv 1, sv 2, sv 3, sv 4], sv 5, sv 109], 10, [], [], [], .tuple #[sv 124, .int .i64 0]⟩]), (103, [⟨[.pointer (some ⟨0, 0, none⟩), sv 124], 10, [], [⟨0, 0, true, .row 95 (.lst ([.chan (some 0)] ++ svs 110 13)) true, .row 95 (.lst ([.chan (some 0)] ++ svs 110 13)) true⟩, ⟨1, 1, true, .orow 114 0 true, .orow 114 0 true⟩], [], .tuple #[.agg (svs 125 64).toArray, .int .i64 0]⟩, ⟨[.pointer (some ⟨0, 0, none⟩), sv 189], 11, [], [⟨0, 0, true, .row 95 (.lst ([.chan (some 0)] ++ svs 110 13)) true, .row 95 (.lst ([.chan (some 0)] ++ svs 110 13)) true⟩, ⟨1, 1, true, .orow 114 0 true, .orow 114 0 true⟩], [], .tuple #[.agg (svs 190 64).toArray, .int .i64 0]⟩]), (105, [⟨[.agg (svs 125 64).toArray, .agg (svs 190 64).toArray], 12, [], [], [], .tuple #[.agg ([.int .i64 0, .int .i64 0, .int .i64 0, .int .i64 0, .int .i64 0, .int .u8 0, .int .u8 0, .int .u8 0, .int .u8 0, .int .u8 0, .int .u8 0, .int .u8 0, .int .u8 0, .int .u8 0, .int .u8 0, .int .u8 0, .int .u8 0, .int .u8 0, .int .u8 0, .int .u8 0, .int .u8 0, .int .u8 0, .int .u8 0, .int .u8 0, .int .u8 0, .int .u8 0, .int .u8 0, .int .u8 0, .int .u8 0, .int .u8 0, .int .u8 0, .int .u8 0, .int .u8 0, .int .u8 0, .int .u8 0, .int .u8 0, .int .u8 0, .int .u8 0, .int .u8 0, .int .u8 0, .int .u8 0, .int .u8 0, .int .u8 0, .int .u8 0, .int .u8 0, .int .u8 0, .int .u8 0, .int .u8 0, .int .u8 0, .int .u8 0, .int .u8 0, .int .u8 0, .int .u8 0, .int .u8 0, .int .u8 0, .int .u8 0, .int .u8 0, .int .u8 0, .int .u8 0, .int .u8 0, .int .u8 0, .int .u8 0, .int .u8 0, .int .u8 0, .int .u8 0, .int .u8 0, .int .u8 0, .int .u8 0, .int .u8 0, .int .u8 0, .int .u8 0, .int .u8 0, .int .u8 0, .int .u8 0, .int .u8 0, .int .u8 0, .int .u8 0, .int .u8 0, .int .u8 0, .int .u8 0, .int .u8 0, .int .u8 0, .int .u8 0, .int .u8 0, .int .u8 0, .int .u8 0, .int .u8 0, .int .u8 0, .int .u8 0, .int .u8 0, .int .u8 0, .int .u8 0, .int .u8 0, .int .u8 0, .int .u8 0, .int .u8 0, .int .u8 0, .int .u8 0, .int .u8 0, .int .u8 0, .int .u8 0]).toArray, .int .i64 12]⟩])] ⟨aq (.int .i64 ((s) + (j.log))) (.int .i64 (IntKind.i64.wrap ((s) + (j.log)))) (wVi64 ((s) + (j.log)) (by omega) (by omega)), qT ((m) < ((s) + (j.log))) (by omega), qT ((m) < (2147483647)) (by omega), aq (.int .i64 ((recAt j n m) + (1))) (.int .i64 (IntKind.i64.wrap ((recAt j n m) + (1)))) (wVi64 ((recAt j n m) + (1)) (by omega) (by omega)), trivial⟩ trivial trivial ⟨oe (record_ctr hj hn hk), oe2 (oe h1) (oe h2), oe hG, trivial⟩ 21 [(7, 2)]
theorem sc_1 (hn : 0 ≤ n ∧ n < j.nodes) (hk : 1 ≤ m ∧ m ≤ 2147483647) (hm1 : m < s + j.log) (hm2 : m < 2147483647)
    (h1 : Ctr Try.prog 103 [pt 0 0, iv (recAt j n m)] (devH d true) (.tuple #[secV (gt d.S (recAt j n m).toNat), iv 0]) []) (h2 : Ctr Try.prog 103 [pt 0 0, iv (recAt j n m + 1)] (devH d true) (.tuple #[secV (gt d.S (recAt j n m + 1).toNat), iv 0]) []) (hb : 9 ≤ recAt j n m ∧ recAt j n m ≤ 4096) (hG : Ctr Try.prog 105 [secV (gt d.S (recAt j n m).toNat), secV (gt d.S (recAt j n m + 1).toNat)] [] (.tuple #[recV r, iv 0]) []) (q : r.node ≠ n) : GSc d j n s e out l m (.tuple #[iv s, mSl 2 out.length INF 0, iv 0]) [(2, rowOr 47 (enc recL out) false)] := by
  have ⟨d1, d2⟩ := hj.l
  have hnb := hj.n
  · exact gF (denQ (jobL j ++ [.int .i64 (n), .int .i64 (s), .int .i64 (e)] ++ recL l ++ [.int .i64 (m)] ++ devC d ++ [.int .i64 ((s) + (j.log)), .int .i64 (recAt j n m)] ++ secL (gt d.S (recAt j n m).toNat) ++ [.int .i64 ((recAt j n m) + (1))] ++ secL (gt d.S (recAt j n m + 1).toNat) ++ recL r) rfl [.v (.slice (some ⟨1, 0, none⟩) d.n d.n), om 7 out.length INF] rfl [enc secL d.S, enc recL out] (PL.cons (enc_plain secL_plain _) (PL.cons (enc_plain recL_plain _) no_rows))) ⟨[(.bin .add 2 (sv 6) (sv 3), sv 123), (.bin .lss 2 (sv 109) (sv 123), .bool true), (.bin .lss 2 (sv 109) (.int .i64 2147483647), .bool true), (.bin .add 3 (sv 124) (.int .i64 1), sv 189), (.bin .neq 3 (sv 254) (sv 5), .bool true)], [], []⟩ [(64, [⟨[.agg #[sv 0, sv 1, sv 2, sv 3, sv 4], sv 5, sv 109], 10, [], [], [], .tuple #[sv 124, .int .i64 0]⟩]), (103, [⟨[.pointer (some ⟨0, 0, none⟩), sv 124], 10, [], [⟨0, 0, true, .row 95 (.lst ([.chan (some 0)] ++ svs 110 13)) true, .row 95 (.lst ([.chan (some 0)] ++ svs 110 13)) true⟩, ⟨1, 1, true, .orow 114 0 true, .orow 114 0 true⟩], [], .tuple #[.agg (svs 125 64).toArray, .int .i64 0]⟩, ⟨[.pointer (some ⟨0, 0, none⟩), sv 189], 11, [], [⟨0, 0, true, .row 95 (.lst ([.chan (some 0)] ++ svs 110 13)) true, .row 95 (.lst ([.chan (some 0)] ++ svs 110 13)) true⟩, ⟨1, 1, true, .orow 114 0 true, .orow 114 0 true⟩], [], .tuple #[.agg (svs 190 64).toArray, .int .i64 0]⟩]), (105, [⟨[.agg (svs 125 64).toArray, .agg (svs 190 64).toArray], 12, [], [], [], .tuple #[.agg (svs 254 101).toArray, .int .i64 0]⟩])] ⟨aq (.int .i64 ((s) + (j.log))) (.int .i64 (IntKind.i64.wrap ((s) + (j.log)))) (wVi64 ((s) + (j.log)) (by omega) (by omega)), qT ((m) < ((s) + (j.log))) (by omega), qT ((m) < (2147483647)) (by omega), aq (.int .i64 ((recAt j n m) + (1))) (.int .i64 (IntKind.i64.wrap ((recAt j n m) + (1)))) (wVi64 ((recAt j n m) + (1)) (by omega) (by omega)), nT (r.node) (n) (by omega), trivial⟩ trivial trivial ⟨oe (record_ctr hj hn hk), oe2 (oe h1) (oe h2), oe hG, trivial⟩ 21 [(7, 2)]
theorem sc_2 (hn : 0 ≤ n ∧ n < j.nodes) (hk : 1 ≤ m ∧ m ≤ 2147483647) (hm1 : m < s + j.log) (hm2 : m < 2147483647)
    (h1 : Ctr Try.prog 103 [pt 0 0, iv (recAt j n m)] (devH d true) (.tuple #[secV (gt d.S (recAt j n m).toNat), iv 0]) []) (h2 : Ctr Try.prog 103 [pt 0 0, iv (recAt j n m + 1)] (devH d true) (.tuple #[secV (gt d.S (recAt j n m + 1).toNat), iv 0]) []) (hb : 9 ≤ recAt j n m ∧ recAt j n m ≤ 4096) (hG : Ctr Try.prog 105 [secV (gt d.S (recAt j n m).toNat), secV (gt d.S (recAt j n m + 1).toNat)] [] (.tuple #[recV r, iv 0]) []) (q1 : r.node = n) (q : r.lsn ≠ m) : GSc d j n s e out l m (.tuple #[iv s, mSl 2 out.length INF 0, iv 0]) [(2, rowOr 47 (enc recL out) false)] := by
  have ⟨d1, d2⟩ := hj.l
  have hnb := hj.n
  · exact gF (denQ (jobL j ++ [.int .i64 (n), .int .i64 (s), .int .i64 (e)] ++ recL l ++ [.int .i64 (m)] ++ devC d ++ [.int .i64 ((s) + (j.log)), .int .i64 (recAt j n m)] ++ secL (gt d.S (recAt j n m).toNat) ++ [.int .i64 ((recAt j n m) + (1))] ++ secL (gt d.S (recAt j n m + 1).toNat) ++ recL r) rfl [.v (.slice (some ⟨1, 0, none⟩) d.n d.n), om 7 out.length INF] rfl [enc secL d.S, enc recL out] (PL.cons (enc_plain secL_plain _) (PL.cons (enc_plain recL_plain _) no_rows))) ⟨[(.bin .add 2 (sv 6) (sv 3), sv 123), (.bin .lss 2 (sv 109) (sv 123), .bool true), (.bin .lss 2 (sv 109) (.int .i64 2147483647), .bool true), (.bin .add 3 (sv 124) (.int .i64 1), sv 189), (.bin .neq 3 (sv 254) (sv 5), .bool false), (.bin .neq 2 (sv 256) (sv 109), .bool true)], [], []⟩ [(64, [⟨[.agg #[sv 0, sv 1, sv 2, sv 3, sv 4], sv 5, sv 109], 10, [], [], [], .tuple #[sv 124, .int .i64 0]⟩]), (103, [⟨[.pointer (some ⟨0, 0, none⟩), sv 124], 10, [], [⟨0, 0, true, .row 95 (.lst ([.chan (some 0)] ++ svs 110 13)) true, .row 95 (.lst ([.chan (some 0)] ++ svs 110 13)) true⟩, ⟨1, 1, true, .orow 114 0 true, .orow 114 0 true⟩], [], .tuple #[.agg (svs 125 64).toArray, .int .i64 0]⟩, ⟨[.pointer (some ⟨0, 0, none⟩), sv 189], 11, [], [⟨0, 0, true, .row 95 (.lst ([.chan (some 0)] ++ svs 110 13)) true, .row 95 (.lst ([.chan (some 0)] ++ svs 110 13)) true⟩, ⟨1, 1, true, .orow 114 0 true, .orow 114 0 true⟩], [], .tuple #[.agg (svs 190 64).toArray, .int .i64 0]⟩]), (105, [⟨[.agg (svs 125 64).toArray, .agg (svs 190 64).toArray], 12, [], [], [], .tuple #[.agg (svs 254 101).toArray, .int .i64 0]⟩])] ⟨aq (.int .i64 ((s) + (j.log))) (.int .i64 (IntKind.i64.wrap ((s) + (j.log)))) (wVi64 ((s) + (j.log)) (by omega) (by omega)), qT ((m) < ((s) + (j.log))) (by omega), qT ((m) < (2147483647)) (by omega), aq (.int .i64 ((recAt j n m) + (1))) (.int .i64 (IntKind.i64.wrap ((recAt j n m) + (1)))) (wVi64 ((recAt j n m) + (1)) (by omega) (by omega)), nF (r.node) (n) (by omega), nT (r.lsn) (m) (by omega), trivial⟩ trivial trivial ⟨oe (record_ctr hj hn hk), oe2 (oe h1) (oe h2), oe hG, trivial⟩ 21 [(7, 2)]
theorem sc_3 (hn : 0 ≤ n ∧ n < j.nodes) (hk : 1 ≤ m ∧ m ≤ 2147483647) (hm1 : m < s + j.log) (hm2 : m < 2147483647)
    (h1 : Ctr Try.prog 103 [pt 0 0, iv (recAt j n m)] (devH d true) (.tuple #[secV (gt d.S (recAt j n m).toNat), iv 0]) []) (h2 : Ctr Try.prog 103 [pt 0 0, iv (recAt j n m + 1)] (devH d true) (.tuple #[secV (gt d.S (recAt j n m + 1).toNat), iv 0]) []) (hb : 9 ≤ recAt j n m ∧ recAt j n m ≤ 4096) (hG : Ctr Try.prog 105 [secV (gt d.S (recAt j n m).toNat), secV (gt d.S (recAt j n m + 1).toNat)] [] (.tuple #[recV r, iv 0]) []) (q1 : r.node = n) (q2 : r.lsn = m) (q : r.epoch < l.epoch) : GSc d j n s e out l m (.tuple #[iv s, mSl 2 out.length INF 0, iv 0]) [(2, rowOr 47 (enc recL out) false)] := by
  have ⟨d1, d2⟩ := hj.l
  have hnb := hj.n
  · exact gF (denQ (jobL j ++ [.int .i64 (n), .int .i64 (s), .int .i64 (e)] ++ recL l ++ [.int .i64 (m)] ++ devC d ++ [.int .i64 ((s) + (j.log)), .int .i64 (recAt j n m)] ++ secL (gt d.S (recAt j n m).toNat) ++ [.int .i64 ((recAt j n m) + (1))] ++ secL (gt d.S (recAt j n m + 1).toNat) ++ recL r) rfl [.v (.slice (some ⟨1, 0, none⟩) d.n d.n), om 7 out.length INF] rfl [enc secL d.S, enc recL out] (PL.cons (enc_plain secL_plain _) (PL.cons (enc_plain recL_plain _) no_rows))) ⟨[(.bin .add 2 (sv 6) (sv 3), sv 123), (.bin .lss 2 (sv 109) (sv 123), .bool true), (.bin .lss 2 (sv 109) (.int .i64 2147483647), .bool true), (.bin .add 3 (sv 124) (.int .i64 1), sv 189), (.bin .neq 3 (sv 254) (sv 5), .bool false), (.bin .neq 2 (sv 256) (sv 109), .bool false), (.bin .lss 2 (sv 255) (sv 9), .bool true)], [], []⟩ [(64, [⟨[.agg #[sv 0, sv 1, sv 2, sv 3, sv 4], sv 5, sv 109], 10, [], [], [], .tuple #[sv 124, .int .i64 0]⟩]), (103, [⟨[.pointer (some ⟨0, 0, none⟩), sv 124], 10, [], [⟨0, 0, true, .row 95 (.lst ([.chan (some 0)] ++ svs 110 13)) true, .row 95 (.lst ([.chan (some 0)] ++ svs 110 13)) true⟩, ⟨1, 1, true, .orow 114 0 true, .orow 114 0 true⟩], [], .tuple #[.agg (svs 125 64).toArray, .int .i64 0]⟩, ⟨[.pointer (some ⟨0, 0, none⟩), sv 189], 11, [], [⟨0, 0, true, .row 95 (.lst ([.chan (some 0)] ++ svs 110 13)) true, .row 95 (.lst ([.chan (some 0)] ++ svs 110 13)) true⟩, ⟨1, 1, true, .orow 114 0 true, .orow 114 0 true⟩], [], .tuple #[.agg (svs 190 64).toArray, .int .i64 0]⟩]), (105, [⟨[.agg (svs 125 64).toArray, .agg (svs 190 64).toArray], 12, [], [], [], .tuple #[.agg (svs 254 101).toArray, .int .i64 0]⟩])] ⟨aq (.int .i64 ((s) + (j.log))) (.int .i64 (IntKind.i64.wrap ((s) + (j.log)))) (wVi64 ((s) + (j.log)) (by omega) (by omega)), qT ((m) < ((s) + (j.log))) (by omega), qT ((m) < (2147483647)) (by omega), aq (.int .i64 ((recAt j n m) + (1))) (.int .i64 (IntKind.i64.wrap ((recAt j n m) + (1)))) (wVi64 ((recAt j n m) + (1)) (by omega) (by omega)), nF (r.node) (n) (by omega), nF (r.lsn) (m) (by omega), qT ((r.epoch) < (l.epoch)) (by omega), trivial⟩ trivial trivial ⟨oe (record_ctr hj hn hk), oe2 (oe h1) (oe h2), oe hG, trivial⟩ 21 [(7, 2)]
theorem sc_4 (hn : 0 ≤ n ∧ n < j.nodes) (hk : 1 ≤ m ∧ m ≤ 2147483647) (hm1 : m < s + j.log) (hm2 : m < 2147483647)
    (h1 : Ctr Try.prog 103 [pt 0 0, iv (recAt j n m)] (devH d true) (.tuple #[secV (gt d.S (recAt j n m).toNat), iv 0]) []) (h2 : Ctr Try.prog 103 [pt 0 0, iv (recAt j n m + 1)] (devH d true) (.tuple #[secV (gt d.S (recAt j n m + 1).toNat), iv 0]) []) (hb : 9 ≤ recAt j n m ∧ recAt j n m ≤ 4096) (hG : Ctr Try.prog 105 [secV (gt d.S (recAt j n m).toNat), secV (gt d.S (recAt j n m + 1).toNat)] [] (.tuple #[recV r, iv 0]) []) (q1 : r.node = n) (q2 : r.lsn = m) (q3 : l.epoch ≤ r.epoch) (q : j.pages ≤ r.page) : GSc d j n s e out l m (.tuple #[iv s, mSl 2 out.length INF 0, iv 0]) [(2, rowOr 47 (enc recL out) false)] := by
  have ⟨d1, d2⟩ := hj.l
  have hnb := hj.n
  · exact gF (denQ (jobL j ++ [.int .i64 (n), .int .i64 (s), .int .i64 (e)] ++ recL l ++ [.int .i64 (m)] ++ devC d ++ [.int .i64 ((s) + (j.log)), .int .i64 (recAt j n m)] ++ secL (gt d.S (recAt j n m).toNat) ++ [.int .i64 ((recAt j n m) + (1))] ++ secL (gt d.S (recAt j n m + 1).toNat) ++ recL r) rfl [.v (.slice (some ⟨1, 0, none⟩) d.n d.n), om 7 out.length INF] rfl [enc secL d.S, enc recL out] (PL.cons (enc_plain secL_plain _) (PL.cons (enc_plain recL_plain _) no_rows))) ⟨[(.bin .add 2 (sv 6) (sv 3), sv 123), (.bin .lss 2 (sv 109) (sv 123), .bool true), (.bin .lss 2 (sv 109) (.int .i64 2147483647), .bool true), (.bin .add 3 (sv 124) (.int .i64 1), sv 189), (.bin .neq 3 (sv 254) (sv 5), .bool false), (.bin .neq 2 (sv 256) (sv 109), .bool false), (.bin .lss 2 (sv 255) (sv 9), .bool false), (.bin .geq 3 (sv 257) (sv 1), .bool true)], [], []⟩ [(64, [⟨[.agg #[sv 0, sv 1, sv 2, sv 3, sv 4], sv 5, sv 109], 10, [], [], [], .tuple #[sv 124, .int .i64 0]⟩]), (103, [⟨[.pointer (some ⟨0, 0, none⟩), sv 124], 10, [], [⟨0, 0, true, .row 95 (.lst ([.chan (some 0)] ++ svs 110 13)) true, .row 95 (.lst ([.chan (some 0)] ++ svs 110 13)) true⟩, ⟨1, 1, true, .orow 114 0 true, .orow 114 0 true⟩], [], .tuple #[.agg (svs 125 64).toArray, .int .i64 0]⟩, ⟨[.pointer (some ⟨0, 0, none⟩), sv 189], 11, [], [⟨0, 0, true, .row 95 (.lst ([.chan (some 0)] ++ svs 110 13)) true, .row 95 (.lst ([.chan (some 0)] ++ svs 110 13)) true⟩, ⟨1, 1, true, .orow 114 0 true, .orow 114 0 true⟩], [], .tuple #[.agg (svs 190 64).toArray, .int .i64 0]⟩]), (105, [⟨[.agg (svs 125 64).toArray, .agg (svs 190 64).toArray], 12, [], [], [], .tuple #[.agg (svs 254 101).toArray, .int .i64 0]⟩])] ⟨aq (.int .i64 ((s) + (j.log))) (.int .i64 (IntKind.i64.wrap ((s) + (j.log)))) (wVi64 ((s) + (j.log)) (by omega) (by omega)), qT ((m) < ((s) + (j.log))) (by omega), qT ((m) < (2147483647)) (by omega), aq (.int .i64 ((recAt j n m) + (1))) (.int .i64 (IntKind.i64.wrap ((recAt j n m) + (1)))) (wVi64 ((recAt j n m) + (1)) (by omega) (by omega)), nF (r.node) (n) (by omega), nF (r.lsn) (m) (by omega), qF ((r.epoch) < (l.epoch)) (by omega), qT ((r.page) ≥ (j.pages)) (by omega), trivial⟩ trivial trivial ⟨oe (record_ctr hj hn hk), oe2 (oe h1) (oe h2), oe hG, trivial⟩ 21 [(7, 2)]
theorem sc_ok (hn : 0 ≤ n ∧ n < j.nodes) (hk : 1 ≤ m ∧ m ≤ 2147483647) (hm1 : m < s + j.log) (hm2 : m < 2147483647)
    (h1 : Ctr Try.prog 103 [pt 0 0, iv (recAt j n m)] (devH d true) (.tuple #[secV (gt d.S (recAt j n m).toNat), iv 0]) []) (h2 : Ctr Try.prog 103 [pt 0 0, iv (recAt j n m + 1)] (devH d true) (.tuple #[secV (gt d.S (recAt j n m + 1).toNat), iv 0]) []) (hb : 9 ≤ recAt j n m ∧ recAt j n m ≤ 4096) (hG : Ctr Try.prog 105 [secV (gt d.S (recAt j n m).toNat), secV (gt d.S (recAt j n m + 1).toNat)] [] (.tuple #[recV r, iv 0]) []) (q1 : r.node = n) (q2 : r.lsn = m) (q3 : l.epoch ≤ r.epoch) (q : r.page < j.pages) (hol : out.length < 1000000) {res : Value} {B : HL} (hg : GSc d j n s e (out ++ [r]) r (m + 1) res B) : GSc d j n s e out l m res B := by
  have ⟨d1, d2⟩ := hj.l
  have hnb := hj.n
  · exact gS (denQ (jobL j ++ [.int .i64 (n), .int .i64 (s), .int .i64 (e)] ++ recL l ++ [.int .i64 (m)] ++ devC d ++ [.int .i64 ((s) + (j.log)), .int .i64 (recAt j n m)] ++ secL (gt d.S (recAt j n m).toNat) ++ [.int .i64 ((recAt j n m) + (1))] ++ secL (gt d.S (recAt j n m + 1).toNat) ++ recL r ++ [.int .i64 ((m) + (1))]) rfl [.v (.slice (some ⟨1, 0, none⟩) d.n d.n), om 7 out.length INF, om 14 (out ++ [r]).length INF] rfl [enc secL d.S, enc recL out, enc recL (out ++ [r])] (PL.cons (enc_plain secL_plain _) (PL.cons (enc_plain recL_plain _) (PL.cons (enc_plain recL_plain _) no_rows)))) (dSc d j n s e (out ++ [r]) r (m + 1)) ⟨[(.bin .add 2 (sv 6) (sv 3), sv 123), (.bin .lss 2 (sv 109) (sv 123), .bool true), (.bin .lss 2 (sv 109) (.int .i64 2147483647), .bool true), (.bin .add 3 (sv 124) (.int .i64 1), sv 189), (.bin .neq 3 (sv 254) (sv 5), .bool false), (.bin .neq 2 (sv 256) (sv 109), .bool false), (.bin .lss 2 (sv 255) (sv 9), .bool false), (.bin .geq 3 (sv 257) (sv 1), .bool false), (.bin .add 2 (sv 109) (.int .i64 1), sv 355)], [], [([43, 43], ⟨[.chan (some 1), .slice (some ⟨13, 0, none⟩) 1 1], 14, [], [⟨7, 0, false, .mrow 47 1 false, .dead⟩, ⟨13, 1, true, .row 47 (.lst (svs 254 101)) false, .row 47 (.lst (svs 254 101)) false⟩], [(2, .mrow 47 2 false)], .chan (some 2)⟩)]⟩ [(64, [⟨[.agg #[sv 0, sv 1, sv 2, sv 3, sv 4], sv 5, sv 109], 10, [], [], [], .tuple #[sv 124, .int .i64 0]⟩]), (103, [⟨[.pointer (some ⟨0, 0, none⟩), sv 124], 10, [], [⟨0, 0, true, .row 95 (.lst ([.chan (some 0)] ++ svs 110 13)) true, .row 95 (.lst ([.chan (some 0)] ++ svs 110 13)) true⟩, ⟨1, 1, true, .orow 114 0 true, .orow 114 0 true⟩], [], .tuple #[.agg (svs 125 64).toArray, .int .i64 0]⟩, ⟨[.pointer (some ⟨0, 0, none⟩), sv 189], 11, [], [⟨0, 0, true, .row 95 (.lst ([.chan (some 0)] ++ svs 110 13)) true, .row 95 (.lst ([.chan (some 0)] ++ svs 110 13)) true⟩, ⟨1, 1, true, .orow 114 0 true, .orow 114 0 true⟩], [], .tuple #[.agg (svs 190 64).toArray, .int .i64 0]⟩]), (105, [⟨[.agg (svs 125 64).toArray, .agg (svs 190 64).toArray], 12, [], [], [], .tuple #[.agg (svs 254 101).toArray, .int .i64 0]⟩])] ⟨aq (.int .i64 ((s) + (j.log))) (.int .i64 (IntKind.i64.wrap ((s) + (j.log)))) (wVi64 ((s) + (j.log)) (by omega) (by omega)), qT ((m) < ((s) + (j.log))) (by omega), qT ((m) < (2147483647)) (by omega), aq (.int .i64 ((recAt j n m) + (1))) (.int .i64 (IntKind.i64.wrap ((recAt j n m) + (1)))) (wVi64 ((recAt j n m) + (1)) (by omega) (by omega)), nF (r.node) (n) (by omega), nF (r.lsn) (m) (by omega), qF ((r.epoch) < (l.epoch)) (by omega), qF ((r.page) ≥ (j.pages)) (by omega), aq (.int .i64 ((m) + (1))) (.int .i64 (IntKind.i64.wrap ((m) + (1)))) (wVi64 ((m) + (1)) (by omega) (by omega)), trivial⟩ trivial ⟨ap (appR (z := 0) out r 1 hol), trivial⟩ ⟨oe (record_ctr hj hn hk), oe2 (oe h1) (oe h2), oe hG, trivial⟩ 18 [(0, 0), (1, 1), (2, 2), (3, 3), (4, 4), (5, 5), (6, 6), (14, 7)] hg
end
end Go.Proofs.Ytpennfojidpmeaa
namespace Go.Proofs.Ytpennfojidpmeaa
open Go.Sx
set_option maxRecDepth 20000
theorem recAt_bd {j : Jb} (hj : MayJ j) {n : Int} (hn : 0 ≤ n ∧ n < j.nodes) (k : Int) : 10 ≤ recAt j n k ∧ recAt j n k + 2 ≤ headAt j (n + 1) ∧ headAt j (n + 1) ≤ headAt j j.nodes ∧ recAt j n k + 2 < sects j := by
  have hl := hj.l
  have hp := hj.p
  have m1 := Int.emod_nonneg (k - 1) (b := j.log) (by omega)
  have m2 := Int.emod_lt_of_pos (k - 1) (b := j.log) (by omega)
  have hb := headAt_bd hj (n := n) ⟨hn.1, by have := hj.n; omega⟩
  have q : headAt j (n + 1) = headAt j n + (1 + 2 * j.log) := by unfold headAt; rw [Int.add_mul]; omega
  have q2 : headAt j (n + 1) ≤ headAt j j.nodes := by
    unfold headAt
    have := Int.mul_le_mul_of_nonneg_right (show n + 1 ≤ j.nodes by omega) (show 0 ≤ 1 + 2 * j.log by omega)
    omega
  unfold sects recAt
  omega
theorem getM_get {a b : Sec} (ha : Byte a) : (∃ r, getM a b = some r ∧ Ctr Try.prog 105 [secV a, secV b] [] (.tuple #[recV r, iv 0]) []) ∨ (getM a b = none ∧ Ctr Try.prog 105 [secV a, secV b] [] (.tuple #[recV zeroR, iv 12]) []) := by
  have h := get_ctr (b := b) ha
  unfold getV at h
  unfold getM
  by_cases h1 : May (said a b)
  · rw [if_pos h1] at h ⊢
    by_cases h2 : eqP (half (said a b) 0) (half (said a b) 1) a b = true
    · rw [if_pos h2] at h ⊢; exact .inl ⟨_, rfl, h⟩
    · rw [if_neg h2] at h ⊢; exact .inr ⟨rfl, h⟩
  · rw [if_neg h1] at h ⊢; exact .inr ⟨rfl, h⟩
theorem gt_byte {d : Dv} (hd : DOK d) (i : Nat) : Byte (gt d.S i) := by
  unfold gt
  cases h : d.S[i]? with
  | none => intro k; exact ⟨Int.le_refl _, show (0 : Int) < 256 by decide⟩
  | some s => exact hd.by' s (List.mem_of_getElem? h)
theorem sc_all {d : Dv} (hd : DOK d) {j : Jb} (hj : MayJ j) (hs : sects j = d.n) {n s e : Int} (hn : 0 ≤ n ∧ n < j.nodes) (hsb : 1 ≤ s ∧ s ≤ 2147483647) : ∀ (k : Nat) (m : Int) (out : List Rec) (l : Rec), m + k = s + j.log → s ≤ m → out.length + k ≤ 64 →
    GSc d j n s e out l m (.tuple #[iv s, mSl 2 (out ++ scanL d j n k m l.epoch).length INF 0, iv 0]) [(2, rowOr 47 (enc recL (out ++ scanL d j n k m l.epoch)) false)]
  | 0, m, out, l, h, h0, h1 => by
    simp only [scanL, List.append_nil]
    exact sc_end hj hsb (by omega)
  | k + 1, m, out, l, h, h0, h1 => by
    by_cases hm : m < 2147483647
    · simp only [scanL, if_pos hm]
      have hb := recAt_bd hj hn m
      have r1 := dread_ctr hd (i := recAt j n m) (by omega) (by omega)
      have r2 := dread_ctr hd (i := recAt j n m + 1) (by omega) (by omega)
      have hsz := sects_bd hj
      rcases getM_get (b := gt d.S (recAt j n m + 1).toNat) (gt_byte hd (recAt j n m).toNat) with ⟨r, hr, hG⟩ | ⟨hr, hG⟩
      · rw [hr]
        simp only
        by_cases q1 : r.node = n
        · by_cases q2 : r.lsn = m
          · by_cases q3 : l.epoch ≤ r.epoch
            · by_cases q4 : r.page < j.pages
              · rw [if_pos ⟨q1, q2, q3, q4⟩, List.append_cons]
                exact sc_ok hj hsb hn (by omega) (by omega) hm r1 r2 (by omega) hG q1 q2 q3 q4 (by omega) (sc_all hd hj hs hn hsb k (m + 1) (out ++ [r]) r (by omega) (by omega) (by simp; omega))
              · rw [if_neg fun h => q4 h.2.2.2, List.append_nil]
                exact sc_4 hj hsb hn (by omega) (by omega) hm r1 r2 (by omega) hG q1 q2 q3 (by omega)
            · rw [if_neg fun h => q3 h.2.2.1, List.append_nil]
              exact sc_3 hj hsb hn (by omega) (by omega) hm r1 r2 (by omega) hG q1 q2 (by omega)
          · rw [if_neg fun h => q2 h.2.1, List.append_nil]
            exact sc_2 hj hsb hn (by omega) (by omega) hm r1 r2 (by omega) hG q1 q2
        · rw [if_neg fun h => q1 h.1, List.append_nil]
          exact sc_1 hj hsb hn (by omega) (by omega) hm r1 r2 (by omega) hG q1
      · rw [hr]
        simp only [List.append_nil]
        exact sc_none hj hsb hn (by omega) (by omega) hm r1 r2 (by omega) hG
    · simp only [scanL, if_neg hm, List.append_nil]
      exact sc_max hj hsb (by omega) (by omega)
theorem scan_ok {d : Dv} (hd : DOK d) {j : Jb} (hj : MayJ j) (hs : sects j = d.n) {n s e : Int} (hn : 0 ≤ n ∧ n < j.nodes) (hsb : 1 ≤ s ∧ s ≤ 2147483647) (_heb : 0 ≤ e ∧ e ≤ 2147483647) (hh : headV (gt d.S (headAt j n).toNat) = .tuple #[.agg #[iv s, iv e], iv 0]) :
    Ctr Try.prog 61 [pt 0 0, jobV j, iv n] (devH d true) (.tuple #[iv s, mSl 2 (scanL d j n j.log.toNat s (max1 e)).length INF 0, iv 0]) [(2, rowOr 47 (enc recL (scanL d j n j.log.toNat s (max1 e))) false)] := by
  have hg := sc_all hd hj hs (e := e) hn hsb j.log.toNat s [] ⟨n, max1 e, s - 1, 0, 0, fun _ => 0⟩ (by have := hj.l; omega) (Int.le_refl _) (by have := hj.l; simp; omega)
  simp only [List.nil_append] at hg
  have hb := headAt_bd hj (n := n) ⟨hn.1, by have := hj.n; omega⟩
  have hb2 := recAt_bd hj hn 1
  have hq : headAt j n < sects j := by have hl := hj.l; have := Int.emod_nonneg (1 - 1) (b := j.log) (by omega); unfold recAt at hb2; omega
  have hrd := dread_ctr hd (i := headAt j n) (by omega) (by omega)
  have ht := take_ctr (gt_byte hd (headAt j n).toNat)
  rw [hh] at ht
  have hg := goodS_slots (fv := fSc (ch 1)) (fv' := fSc (.slice none 0 0)) (by simp only [slotsOK, fSc]; exact ⟨trivial, .inl trivial, trivial, .inl trivial, trivial, .inl trivial, trivial, .inl trivial, trivial, .inl trivial, trivial, .inl trivial, trivial, .inr ⟨1, rfl, rfl⟩, trivial, .inl trivial, trivial⟩) (goodS_ghost (A2 := aSc) hg rfl rfl)
  · exact g0 (denQ (jobL j ++ [.int .i64 (n)] ++ devC d ++ [.int .i64 (headAt j n)] ++ secL (gt d.S (headAt j n).toNat) ++ [.int .i64 (s), .int .i64 (e), .int .i64 (max1 e), .int .i64 ((s) - (1))]) rfl [.v (.slice (some ⟨1, 0, none⟩) d.n d.n)] rfl [enc secL d.S] (PL.cons (enc_plain secL_plain _) no_rows)) (dSc d j n s e [] ⟨n, max1 e, s - 1, 0, 0, fun _ => 0⟩ s) ⟨[(.mm true (.int .i64 1) (sv 85), sv 86), (.bin .sub 2 (sv 84) (.int .i64 1), sv 87)], [], []⟩ [(67, [⟨[.agg #[sv 0, sv 1, sv 2, sv 3, sv 4], sv 5], 5, [], [], [], .tuple #[sv 19, .int .i64 0]⟩]), (103, [⟨[.pointer (some ⟨0, 0, none⟩), sv 19], 5, [], [⟨0, 0, true, .row 95 (.lst ([.chan (some 0)] ++ svs 6 13)) true, .row 95 (.lst ([.chan (some 0)] ++ svs 6 13)) true⟩, ⟨1, 1, true, .orow 114 0 true, .orow 114 0 true⟩], [], .tuple #[.agg (svs 20 64).toArray, .int .i64 0]⟩]), (104, [⟨[.agg (svs 20 64).toArray], 6, [], [], [], .tuple #[.agg #[sv 84, sv 85], .int .i64 0]⟩])] ⟨aq (iv (max1 e)) (iv (max1 e)) rfl, aq (.int .i64 ((s) - (1))) (.int .i64 (IntKind.i64.wrap ((s) - (1)))) (wVi64 ((s) - (1)) (by omega) (by omega)), trivial⟩ trivial trivial ⟨oe (head_ctr hj hn), oe hrd, oe ht, trivial⟩ 26 2 ([(0, .row 95 (.lst (ch 0 :: svs 6 13)) true), (1, .orow 114 0 true)]) [pt 0 0, vA 0 5, sv 5] [(0, 0), (1, 1), (2, 2), (3, 3), (4, 4), (6, 5), (7, 6)] hg
end Go.Proofs.Ytpennfojidpmeaa
namespace Go.Sx
variable {P : Program}
theorem Ctr.resMono {g : FuncId} {args : List Value} {A B : HL} {res res' : Value} (h : Ctr P g args A res B) (hr : ∀ E v, VR0 E res v → VR0 E res' v) : Ctr P g args A res' B :=
  ⟨h.1, fun w F E args' hh hl Fe n hW => (h.2 w F E args' hh hl Fe n hW).mono fun _ _ ⟨v', E', k1, k2, k3, k4⟩ => ⟨v', E', k1, k2, k3, hr _ _ k4⟩⟩
theorem VR0.weaken {E : Env} {i n c : Nat} {v : Value} (h : VR0 E (mSl i n c 0) v) : VR0 E (mSl i n c 1) v := by
  cases n with
  | zero => cases h; exact @VR.weS den0 E none
  | succ n => exact h
theorem VR0.weaken3 {E : Env} {a b : Value} {i n c : Nat} {v : Value} (h : VR0 E (.tuple #[a, mSl i n c 0, b]) v) : VR0 E (.tuple #[a, mSl i n c 1, b]) v := by
  cases h with
  | tup hf h1 =>
    refine @VR.tup den0 E _ _ hf fun k x y hx hy => ?_
    match k with
    | 0 => exact h1 0 x y hx hy
    | 1 =>
      have : x = mSl i n c 1 := by simpa using hx.symm
      subst this
      exact VR0.weaken (h1 1 (mSl i n c 0) y rfl hy)
    | 2 => exact h1 2 x y hx hy
    | k + 3 => simp at hx
end Go.Sx
namespace Go.Proofs.Ytpennfojidpmeaa
open Go.Sx
set_option maxRecDepth 20000
structure Lo where
  j : Jb
  node : Int
  epoch : Int
  start : Int
  flushed : Int
  L : List Rec
structure LOK (l : Lo) : Prop where
  j : MayJ l.j
  nd : 0 ≤ l.node ∧ l.node < l.j.nodes
  ep : 1 ≤ l.epoch ∧ l.epoch ≤ 2147483647
  st : 1 ≤ l.start ∧ l.start ≤ 2147483647
  fl : l.start - 1 ≤ l.flushed ∧ l.flushed < l.start + l.L.length
  ln : l.L.length ≤ l.j.log ∧ l.start + l.L.length ≤ 2147483647
  may : ∀ r ∈ l.L, May r
  by' : ∀ r ∈ l.L, Byte r.body
  lsn : ∀ i, i < l.L.length → (gt l.L i).lsn = l.start + i
def logC (l : Lo) : List Value := jobL l.j ++ [iv l.node, iv l.epoch, iv l.start, iv l.flushed]
def logRow (l : Lo) (rid : Nat) : List Value := pt 0 0 :: (logC l ++ [mSl rid l.L.length INF 1])
def logA (l : Lo) (rid : Nat) (ro : Bool) : HL := [(2, .row 62 (.lst (logRow l rid)) ro), (rid, rowOr 47 (enc recL l.L) ro)]
def logR (l : Lo) (rid : Nat) (ro : Bool) : HL := logA l rid ro ++ [(0, .dead)]
def roomM (l : Lo) : Int := if l.start + l.L.length ≥ 2147483647 then 0 else l.j.log - l.L.length
section
variable {l : Lo} (hl : LOK l)
include hl
theorem next_ctr : Ctr Try.prog 19 [pt 2 0] (logR l 3 true) (iv (l.start + l.L.length)) [(0, .dead)] := by
  have hj := hl.j
  have ⟨d1, d2⟩ := hj.l
  have ⟨n1, n2⟩ := hj.n
  have ⟨p1, p2⟩ := hj.p
  have ⟨t1, t2⟩ := hl.st
  have ⟨f1, f2⟩ := hl.fl
  have ⟨l1, l2⟩ := hl.ln
  have ⟨e1, e2⟩ := hl.ep
  have ⟨q1, q2⟩ := hl.nd
  exact pth (denQ (logC l ++ [.int .i64 (l.L.length), .int .i64 ((l.start) + (l.L.length))]) rfl [ow 3 l.L.length INF] rfl [enc recL l.L] (PL.cons (enc_plain recL_plain _) no_rows)) ⟨[(.len 43 (.chan (some 0)), sv 9), (.bin .add 2 (sv 7) (sv 9), sv 10)], [], []⟩ [] ⟨asLen u43 rfl (by kernel_rfl), aq (.int .i64 ((l.start) + (l.L.length))) (.int .i64 (IntKind.i64.wrap ((l.start) + (l.L.length)))) (wVi64 ((l.start) + (l.L.length)) (by omega) (by omega)), trivial⟩ trivial trivial trivial 4 ([(2, .row 62 (.lst (pt 0 0 :: (svs 0 9 ++ [ch 0]))) true), (3, .mrow 47 0 true)] ++ [(0, .dead)]) [pt 2 0] [(0, 0)]
omit hl in
theorem start_ctr : Ctr Try.prog 28 [pt 2 0] (logR l 3 true) (iv l.start) [(0, .dead)] := by
  exact pth (denQ (logC l) rfl [ow 3 l.L.length INF] rfl [enc recL l.L] (PL.cons (enc_plain recL_plain _) no_rows)) ⟨[], [], []⟩ [] trivial trivial trivial trivial 4 ([(2, .row 62 (.lst (pt 0 0 :: (svs 0 9 ++ [ch 0]))) true), (3, .mrow 47 0 true)] ++ [(0, .dead)]) [pt 2 0] [(0, 0)]
omit hl in
theorem flushed_ctr : Ctr Try.prog 24 [pt 2 0] (logR l 3 true) (iv l.flushed) [(0, .dead)] := by
  exact pth (denQ (logC l) rfl [ow 3 l.L.length INF] rfl [enc recL l.L] (PL.cons (enc_plain recL_plain _) no_rows)) ⟨[], [], []⟩ [] trivial trivial trivial trivial 4 ([(2, .row 62 (.lst (pt 0 0 :: (svs 0 9 ++ [ch 0]))) true), (3, .mrow 47 0 true)] ++ [(0, .dead)]) [pt 2 0] [(0, 0)]
theorem room_ctr : Ctr Try.prog 16 [pt 2 0] (logR l 3 true) (iv (roomM l)) [(0, .dead)] := by
  have hj := hl.j
  have ⟨d1, d2⟩ := hj.l
  have ⟨n1, n2⟩ := hj.n
  have ⟨p1, p2⟩ := hj.p
  have ⟨t1, t2⟩ := hl.st
  have ⟨f1, f2⟩ := hl.fl
  have ⟨l1, l2⟩ := hl.ln
  have ⟨e1, e2⟩ := hl.ep
  have ⟨q1, q2⟩ := hl.nd
  · by_cases h0 : (((l.start) + (l.L.length)) : Int) ≥ (2147483647)
    · rw [roomM, if_pos h0]
      exact pth (denQ (logC l ++ [.int .i64 (l.L.length), .int .i64 ((l.start) + (l.L.length))]) rfl [ow 3 l.L.length INF] rfl [enc recL l.L] (PL.cons (enc_plain recL_plain _) no_rows)) ⟨[(.len 43 (.chan (some 0)), sv 9), (.bin .add 2 (sv 7) (sv 9), sv 10), (.bin .geq 2 (sv 10) (.int .i64 2147483647), .bool true)], [], []⟩ [] ⟨asLen u43 rfl (by kernel_rfl), aq (.int .i64 ((l.start) + (l.L.length))) (.int .i64 (IntKind.i64.wrap ((l.start) + (l.L.length)))) (wVi64 ((l.start) + (l.L.length)) (by omega) (by omega)), qT (((l.start) + (l.L.length)) ≥ (2147483647)) (by omega), trivial⟩ trivial trivial trivial 4 ([(2, .row 62 (.lst (pt 0 0 :: (svs 0 9 ++ [ch 0]))) true), (3, .mrow 47 0 true)] ++ [(0, .dead)]) [pt 2 0] [(0, 0)]
    · rw [roomM, if_neg h0]
      exact pth (denQ (logC l ++ [.int .i64 (l.L.length), .int .i64 ((l.start) + (l.L.length)), .int .i64 ((l.j.log) - (l.L.length))]) rfl [ow 3 l.L.length INF] rfl [enc recL l.L] (PL.cons (enc_plain recL_plain _) no_rows)) ⟨[(.len 43 (.chan (some 0)), sv 9), (.bin .add 2 (sv 7) (sv 9), sv 10), (.bin .geq 2 (sv 10) (.int .i64 2147483647), .bool false), (.bin .sub 3 (sv 3) (sv 9), sv 11)], [], []⟩ [] ⟨asLen u43 rfl (by kernel_rfl), aq (.int .i64 ((l.start) + (l.L.length))) (.int .i64 (IntKind.i64.wrap ((l.start) + (l.L.length)))) (wVi64 ((l.start) + (l.L.length)) (by omega) (by omega)), qF (((l.start) + (l.L.length)) ≥ (2147483647)) (by omega), aq (.int .i64 ((l.j.log) - (l.L.length))) (.int .i64 (IntKind.i64.wrap ((l.j.log) - (l.L.length)))) (wVi64 ((l.j.log) - (l.L.length)) (by omega) (by omega)), trivial⟩ trivial trivial trivial 4 ([(2, .row 62 (.lst (pt 0 0 :: (svs 0 9 ++ [ch 0]))) true), (3, .mrow 47 0 true)] ++ [(0, .dead)]) [pt 2 0] [(0, 0)]
def ApOK (l : Lo) (p : Int) (v : Ver) : Prop := 0 ≤ p ∧ p < l.j.pages ∧ 1 ≤ v.psn ∧ v.psn ≤ 2147483647
theorem append_ok {p : Int} {v : Ver} (h : ApOK l p v) (hr : roomM l ≠ 0) : Ctr Try.prog 20 [pt 2 0, iv p, .agg (verV v).toArray] (logR l 3 false) (.tuple #[iv (l.start + l.L.length), iv 0]) (logR { l with L := l.L ++ [⟨l.node, l.epoch, l.start + l.L.length, p, v.psn, v.body⟩] } 4 false) := by
  have hj := hl.j
  have ⟨d1, d2⟩ := hj.l
  have ⟨n1, n2⟩ := hj.n
  have ⟨p1, p2⟩ := hj.p
  have ⟨t1, t2⟩ := hl.st
  have ⟨f1, f2⟩ := hl.fl
  have ⟨l1, l2⟩ := hl.ln
  have ⟨e1, e2⟩ := hl.ep
  have ⟨q1, q2⟩ := hl.nd
  obtain ⟨a1, a2, a3, a4⟩ := h
  have hroom := room_ctr hl
  have hnext := next_ctr hl
  have hol : l.L.length < 1000000 := by omega
  exact pth (denQ ([.int .i64 (p)] ++ verV v ++ logC l ++ [.int .i64 (roomM l), .int .i64 (l.start + l.L.length)]) rfl [ow 3 l.L.length INF, ow 7 (l.L ++ [Rec.mk l.node l.epoch (l.start + l.L.length) p v.psn v.body]).length INF] rfl [enc recL l.L, enc recL (l.L ++ [Rec.mk l.node l.epoch (l.start + l.L.length) p v.psn v.body])] (PL.cons (enc_plain recL_plain _) (PL.cons (enc_plain recL_plain _) no_rows))) ⟨[(.bin .lss 3 (sv 0) (.int .i64 0), .bool false), (.bin .geq 3 (sv 0) (sv 99), .bool false), (.bin .lss 2 (sv 1) (.int .i64 1), .bool false), (.bin .gtr 2 (sv 1) (.int .i64 2147483647), .bool false), (.bin .eql 3 (sv 107) (.int .i64 0), .bool false)], [], [([43, 43], ⟨[.chan (some 0), .slice (some ⟨6, 0, none⟩) 1 1], 7, [], [⟨3, 0, false, .mrow 47 0 false, .dead⟩, ⟨6, 1, true, .row 47 (.lst ([sv 103, sv 104, sv 108] ++ svs 0 98)) false, .row 47 (.lst ([sv 103, sv 104, sv 108] ++ svs 0 98)) false⟩], [(2, .mrow 47 1 false)], .chan (some 1)⟩)]⟩ [(16, [⟨[.pointer (some ⟨2, 0, none⟩)], 6, [(0, 0)], [⟨2, 2, true, .row 62 (.lst ([.pointer (some ⟨0, 0, none⟩)] ++ svs 98 9 ++ [.chan (some 0)])) false, .row 62 (.lst ([.pointer (some ⟨0, 0, none⟩)] ++ svs 98 9 ++ [.chan (some 0)])) false⟩, ⟨3, 3, true, .mrow 47 0 false, .mrow 47 0 false⟩], [], sv 107⟩]), (19, [⟨[.pointer (some ⟨2, 0, none⟩)], 6, [(0, 0)], [⟨2, 2, true, .row 62 (.lst ([.pointer (some ⟨0, 0, none⟩)] ++ svs 98 9 ++ [.chan (some 0)])) false, .row 62 (.lst ([.pointer (some ⟨0, 0, none⟩)] ++ svs 98 9 ++ [.chan (some 0)])) false⟩, ⟨3, 3, true, .mrow 47 0 false, .mrow 47 0 false⟩], [], sv 108⟩])] ⟨qF ((p) < (0)) (by omega), qF ((p) ≥ (l.j.pages)) (by omega), qF ((v.psn) < (1)) (by omega), qF ((v.psn) > (2147483647)) (by omega), eF (roomM l) (0) (by omega), trivial⟩ trivial ⟨ap (appR (z := 1) l.L (Rec.mk l.node l.epoch (l.start + l.L.length) p v.psn v.body) 1 hol), trivial⟩ ⟨oe hroom, oe hnext, trivial⟩ 5 ([(2, .row 62 (.lst (pt 0 0 :: (svs 98 9 ++ [ch 0]))) false), (3, .mrow 47 0 false)] ++ [(0, .dead)]) [pt 2 0, sv 0, vA 1 97] [(2, 2), (7, 4), (0, 0)]
theorem append_full {p : Int} {v : Ver} (h : ApOK l p v) (hr : roomM l = 0) : Ctr Try.prog 20 [pt 2 0, iv p, .agg (verV v).toArray] (logR l 3 false) (.tuple #[iv 0, iv 5]) (logR l 3 false) := by
  have hj := hl.j
  have ⟨d1, d2⟩ := hj.l
  have ⟨n1, n2⟩ := hj.n
  have ⟨p1, p2⟩ := hj.p
  have ⟨t1, t2⟩ := hl.st
  have ⟨f1, f2⟩ := hl.fl
  have ⟨l1, l2⟩ := hl.ln
  have ⟨e1, e2⟩ := hl.ep
  have ⟨q1, q2⟩ := hl.nd
  obtain ⟨a1, a2, a3, a4⟩ := h
  have hroom := room_ctr hl
  exact pth (denQ ([.int .i64 (p)] ++ verV v ++ logC l ++ [.int .i64 (roomM l)]) rfl [ow 3 l.L.length INF] rfl [enc recL l.L] (PL.cons (enc_plain recL_plain _) no_rows)) ⟨[(.bin .lss 3 (sv 0) (.int .i64 0), .bool false), (.bin .geq 3 (sv 0) (sv 99), .bool false), (.bin .lss 2 (sv 1) (.int .i64 1), .bool false), (.bin .gtr 2 (sv 1) (.int .i64 2147483647), .bool false), (.bin .eql 3 (sv 107) (.int .i64 0), .bool true)], [], []⟩ [(16, [⟨[.pointer (some ⟨2, 0, none⟩)], 6, [(0, 0)], [⟨2, 2, true, .row 62 (.lst ([.pointer (some ⟨0, 0, none⟩)] ++ svs 98 9 ++ [.chan (some 0)])) false, .row 62 (.lst ([.pointer (some ⟨0, 0, none⟩)] ++ svs 98 9 ++ [.chan (some 0)])) false⟩, ⟨3, 3, true, .mrow 47 0 false, .mrow 47 0 false⟩], [], sv 107⟩])] ⟨qF ((p) < (0)) (by omega), qF ((p) ≥ (l.j.pages)) (by omega), qF ((v.psn) < (1)) (by omega), qF ((v.psn) > (2147483647)) (by omega), eT (roomM l) (0) (by omega), trivial⟩ trivial trivial ⟨oe hroom, trivial⟩ 5 ([(2, .row 62 (.lst (pt 0 0 :: (svs 98 9 ++ [ch 0]))) false), (3, .mrow 47 0 false)] ++ [(0, .dead)]) [pt 2 0, sv 0, vA 1 97] [(2, 2), (3, 3), (0, 0)]
theorem append_arg {p : Int} {v : Ver} (h : ¬ ApOK l p v) : Ctr Try.prog 20 [pt 2 0, iv p, .agg (verV v).toArray] (logR l 3 false) (.tuple #[iv 0, iv 2]) (logR l 3 false) := by
  have hj := hl.j
  have ⟨d1, d2⟩ := hj.l
  have ⟨n1, n2⟩ := hj.n
  have ⟨p1, p2⟩ := hj.p
  have ⟨t1, t2⟩ := hl.st
  have ⟨f1, f2⟩ := hl.fl
  have ⟨l1, l2⟩ := hl.ln
  have ⟨e1, e2⟩ := hl.ep
  have ⟨q1, q2⟩ := hl.nd
  · by_cases h0 : ((p) : Int) < (0)
    · skip
      exact pth (denQ ([.int .i64 (p)] ++ verV v ++ logC l) rfl [ow 3 l.L.length INF] rfl [enc recL l.L] (PL.cons (enc_plain recL_plain _) no_rows)) ⟨[(.bin .lss 3 (sv 0) (.int .i64 0), .bool true)], [], []⟩ [] ⟨qT ((p) < (0)) (by omega), trivial⟩ trivial trivial trivial 5 ([(2, .row 62 (.lst (pt 0 0 :: (svs 98 9 ++ [ch 0]))) false), (3, .mrow 47 0 false)] ++ [(0, .dead)]) [pt 2 0, sv 0, vA 1 97] [(2, 2), (3, 3), (0, 0)]
    · by_cases h1 : ((p) : Int) ≥ (l.j.pages)
      · skip
        exact pth (denQ ([.int .i64 (p)] ++ verV v ++ logC l) rfl [ow 3 l.L.length INF] rfl [enc recL l.L] (PL.cons (enc_plain recL_plain _) no_rows)) ⟨[(.bin .lss 3 (sv 0) (.int .i64 0), .bool false), (.bin .geq 3 (sv 0) (sv 99), .bool true)], [], []⟩ [] ⟨qF ((p) < (0)) (by omega), qT ((p) ≥ (l.j.pages)) (by omega), trivial⟩ trivial trivial trivial 5 ([(2, .row 62 (.lst (pt 0 0 :: (svs 98 9 ++ [ch 0]))) false), (3, .mrow 47 0 false)] ++ [(0, .dead)]) [pt 2 0, sv 0, vA 1 97] [(2, 2), (3, 3), (0, 0)]
      · by_cases h2 : ((v.psn) : Int) < (1)
        · skip
          exact pth (denQ ([.int .i64 (p)] ++ verV v ++ logC l) rfl [ow 3 l.L.length INF] rfl [enc recL l.L] (PL.cons (enc_plain recL_plain _) no_rows)) ⟨[(.bin .lss 3 (sv 0) (.int .i64 0), .bool false), (.bin .geq 3 (sv 0) (sv 99), .bool false), (.bin .lss 2 (sv 1) (.int .i64 1), .bool true)], [], []⟩ [] ⟨qF ((p) < (0)) (by omega), qF ((p) ≥ (l.j.pages)) (by omega), qT ((v.psn) < (1)) (by omega), trivial⟩ trivial trivial trivial 5 ([(2, .row 62 (.lst (pt 0 0 :: (svs 98 9 ++ [ch 0]))) false), (3, .mrow 47 0 false)] ++ [(0, .dead)]) [pt 2 0, sv 0, vA 1 97] [(2, 2), (3, 3), (0, 0)]
        · by_cases h3 : ((v.psn) : Int) > (2147483647)
          · skip
            exact pth (denQ ([.int .i64 (p)] ++ verV v ++ logC l) rfl [ow 3 l.L.length INF] rfl [enc recL l.L] (PL.cons (enc_plain recL_plain _) no_rows)) ⟨[(.bin .lss 3 (sv 0) (.int .i64 0), .bool false), (.bin .geq 3 (sv 0) (sv 99), .bool false), (.bin .lss 2 (sv 1) (.int .i64 1), .bool false), (.bin .gtr 2 (sv 1) (.int .i64 2147483647), .bool true)], [], []⟩ [] ⟨qF ((p) < (0)) (by omega), qF ((p) ≥ (l.j.pages)) (by omega), qF ((v.psn) < (1)) (by omega), qT ((v.psn) > (2147483647)) (by omega), trivial⟩ trivial trivial trivial 5 ([(2, .row 62 (.lst (pt 0 0 :: (svs 98 9 ++ [ch 0]))) false), (3, .mrow 47 0 false)] ++ [(0, .dead)]) [pt 2 0, sv 0, vA 1 97] [(2, 2), (3, 3), (0, 0)]
          · exact absurd ⟨by omega, by omega, by omega, by omega⟩ h
end
section
variable {d : Dv} (hd : DOK d) {j : Jb} (hj : MayJ j) (hs : sects j = d.n) {n : Int} (hn : 0 ≤ n ∧ n < j.nodes)
include hd hj hs hn
theorem read_ok {s e : Int} (hsb : 1 ≤ s ∧ s ≤ 2147483647) (heb : 0 ≤ e ∧ e ≤ 2147483647) (hh : headV (gt d.S (headAt j n).toNat) = .tuple #[.agg #[iv s, iv e], iv 0]) :
    Ctr Try.prog 22 [pt 0 0, jobV j, iv n] (devH d true) (.tuple #[iv s, mSl 2 (scanL d j n j.log.toNat s (max1 e)).length INF 0, iv 0]) [(2, rowOr 47 (enc recL (scanL d j n j.log.toNat s (max1 e))) false)] := by
  have hscan := scan_ok hd hj hs hn hsb heb hh
  have hmay := may_ctr hd hj hs hn
  generalize scanL d j n j.log.toNat s (max1 e) = L at *
  exact pth (denQ (jobL j ++ [.int .i64 (n)] ++ devC d ++ [.int .i64 (s)]) rfl [.v (.slice (some ⟨1, 0, none⟩) d.n d.n), om 3 L.length INF] rfl [enc secL d.S, enc recL L] (PL.cons (enc_plain secL_plain _) (PL.cons (enc_plain recL_plain _) no_rows))) ⟨[], [], []⟩ [(60, [⟨[.pointer (some ⟨0, 0, none⟩), .agg #[sv 0, sv 1, sv 2, sv 3, sv 4], sv 5], 3, [], [⟨0, 0, true, .row 95 (.lst ([.chan (some 0)] ++ svs 6 13)) true, .row 95 (.lst ([.chan (some 0)] ++ svs 6 13)) true⟩, ⟨1, 1, true, .orow 114 0 true, .orow 114 0 true⟩], [], .int .i64 0⟩]), (61, [⟨[.pointer (some ⟨0, 0, none⟩), .agg #[sv 0, sv 1, sv 2, sv 3, sv 4], sv 5], 3, [], [⟨0, 0, true, .row 95 (.lst ([.chan (some 0)] ++ svs 6 13)) true, .row 95 (.lst ([.chan (some 0)] ++ svs 6 13)) true⟩, ⟨1, 1, true, .orow 114 0 true, .orow 114 0 true⟩], [(2, .mrow 47 1 false)], .tuple #[sv 19, .chan (some 1), .int .i64 0]⟩])] trivial trivial trivial ⟨oe hmay, oe hscan, trivial⟩ 2 ([(0, .row 95 (.lst (ch 0 :: svs 6 13)) true), (1, .orow 114 0 true)]) [pt 0 0, vA 0 5, sv 5] [(3, 2)]
theorem open_ok {s e ep : Int} (hep : 1 ≤ ep ∧ ep ≤ 2147483647) (hsb : 1 ≤ s ∧ s ≤ 2147483647) (heb : 0 ≤ e ∧ e ≤ 2147483647) (hh : headV (gt d.S (headAt j n).toNat) = .tuple #[.agg #[iv s, iv e], iv 0]) :
    Ctr Try.prog 15 [pt 0 0, jobV j, iv n, iv ep] (devH d false) (.tuple #[pt 2 0, iv 0]) (devH d false ++ logA ⟨j, n, ep, s, s + (scanL d j n j.log.toNat s (max1 e)).length - 1, scanL d j n j.log.toNat s (max1 e)⟩ 3 false) := by
  have hscan := (scan_ok hd hj hs hn hsb heb hh).resMono fun E v h => VR0.weaken3 h
  have hmay := may_ctr hd hj hs hn
  have hlen : (scanL d j n j.log.toNat s (max1 e)).length ≤ 64 := by
    have h : ∀ (k : Nat) (m le : Int), (scanL d j n k m le).length ≤ k := by
      intro k
      induction k with
      | zero => intro m le; exact Nat.le_refl _
      | succ k ih =>
        intro m le
        unfold scanL
        split
        · split
          · split
            · rw [List.length_cons]; exact Nat.succ_le_succ (ih _ _)
            · exact Nat.zero_le _
          · exact Nat.zero_le _
        · exact Nat.zero_le _
    have h1 := h j.log.toNat s (max1 e)
    have h2 := hj.l
    omega
  generalize scanL d j n j.log.toNat s (max1 e) = L at *
  exact pth (denQ (jobL j ++ [.int .i64 (n), .int .i64 (ep)] ++ devC d ++ [.int .i64 (s), .int .i64 (L.length), .int .i64 ((s) + (L.length)), .int .i64 (((s) + (L.length)) - (1))]) rfl [.v (.slice (some ⟨1, 0, none⟩) d.n d.n), ow 3 L.length INF] rfl [enc secL d.S, enc recL L] (PL.cons (enc_plain secL_plain _) (PL.cons (enc_plain recL_plain _) no_rows))) ⟨[(.bin .lss 2 (sv 6) (.int .i64 1), .bool false), (.bin .gtr 2 (sv 6) (.int .i64 2147483647), .bool false), (.len 43 (.chan (some 1)), sv 21), (.bin .add 2 (sv 20) (sv 21), sv 22), (.bin .sub 2 (sv 22) (.int .i64 1), sv 23)], [], []⟩ [(60, [⟨[.pointer (some ⟨0, 0, none⟩), .agg #[sv 0, sv 1, sv 2, sv 3, sv 4], sv 5], 3, [], [⟨0, 0, true, .row 95 (.lst ([.chan (some 0)] ++ svs 7 13)) false, .row 95 (.lst ([.chan (some 0)] ++ svs 7 13)) false⟩, ⟨1, 1, true, .orow 114 0 false, .orow 114 0 false⟩], [], .int .i64 0⟩]), (61, [⟨[.pointer (some ⟨0, 0, none⟩), .agg #[sv 0, sv 1, sv 2, sv 3, sv 4], sv 5], 3, [], [⟨0, 0, true, .row 95 (.lst ([.chan (some 0)] ++ svs 7 13)) false, .row 95 (.lst ([.chan (some 0)] ++ svs 7 13)) false⟩, ⟨1, 1, true, .orow 114 0 false, .orow 114 0 false⟩], [(2, .mrow 47 1 false)], .tuple #[sv 20, .chan (some 1), .int .i64 0]⟩])] ⟨qF ((ep) < (1)) (by omega), qF ((ep) > (2147483647)) (by omega), asLen u43 rfl (by kernel_rfl), aq (.int .i64 ((s) + (L.length))) (.int .i64 (IntKind.i64.wrap ((s) + (L.length)))) (wVi64 ((s) + (L.length)) (by omega) (by omega)), aq (.int .i64 (((s) + (L.length)) - (1))) (.int .i64 (IntKind.i64.wrap (((s) + (L.length)) - (1)))) (wVi64 (((s) + (L.length)) - (1)) (by omega) (by omega)), trivial⟩ trivial trivial ⟨oe hmay, oe hscan, trivial⟩ 2 ([(0, .row 95 (.lst (ch 0 :: svs 7 13)) false), (1, .orow 114 0 false)]) [pt 0 0, vA 0 5, sv 5, sv 6] [(0, 0), (1, 1), (4, 2), (3, 3)]
end
end Go.Proofs.Ytpennfojidpmeaa

import Derived.Test.YtpennfojidpmeaaQh
import Derived.Test.YtpennfojidpmeaaRows
import Derived.ProofKit
import Derived.OpenShut
import Derived.Deep.Slices
import Derived.ChangeSame
import Derived.WideKeyArgs
namespace Go.Sx
variable {P : Program}
theorem Ctr.ptrOnly {g : FuncId} {args : List Value} {A B : HL} {i o : Nat} (h : Ctr P g args A (.pointer (some ⟨i, o, none⟩)) B) (hi : (lkL B i).isSome = true) : Ctr P g args A (.pointer (some ⟨i, o, none⟩)) [(i, .dead)] :=
  ⟨h.1, fun w F E args' hr hl Fe n hW => (h.2 w F E args' hr hl Fe n hW).mono fun e w' ⟨v', E', k1, k2, k3, k4⟩ => by
    have hq : ∀ b o, lkL [(i, AObj.dead)] b = some o → b = i ∧ o = .dead := fun b o hb => by
      simp only [lkL] at hb
      cases hq : Nat.beq i b with
      | true => rw [hq] at hb; cases hb; exact ⟨(beq_iff.1 hq).symm, rfl⟩
      | false => rw [hq] at hb; cases hb
    have hii : (lkL [(i, AObj.dead)] i).isSome = true := by simp [lkL]
    refine ⟨v', fun b => if (lkL [(i, AObj.dead)] b).isSome = true then E' b else none, k1, fun b x hx hb => ?_, HR0.pick (B := [(i, .dead)]) k3 (fun b o hb => ?_), ?_⟩
    · show (if (lkL [(i, AObj.dead)] b).isSome = true then E' b else none) = _
      rw [if_pos hb]
      obtain ⟨o, ho⟩ := Option.isSome_iff_exists.1 hb
      obtain ⟨rfl, _⟩ := hq b o ho
      exact k2 _ x hx hi
    · obtain ⟨rfl, rfl⟩ := hq b o hb
      obtain ⟨p, hp⟩ := Option.isSome_iff_exists.1 hi
      exact ⟨p, by rw [get_ofL]; exact hp, .inl rfl⟩
    · cases k4 with
      | ptr h1 => exact @VR.ptr den0 _ _ _ _ (by show (if (lkL [(i, AObj.dead)] i).isSome = true then E' i else none) = _; rw [if_pos hii]; exact h1)⟩
theorem ghostD [Den] {w0 : World} {F : Nat → Prop} {E : Env} {B : HL} {w : World} (hr : HR P w0 F E (ofL B) w) (b : Nat) (hb : lkL B b = none) (T j : Nat) (ro : Bool) (hj : Den.row j = []) : HR P w0 F E (ofL (B ++ [(b, .mrow T j ro)])) w := by
  have hEb : E b = none := by
    cases hx : E b with
    | none => rfl
    | some x => have := hr.dom b x hx; rw [get_ofL, hb] at this; exact absurd rfl this
  have hget : ∀ i, (ofL (B ++ [(b, .mrow T j ro)])).get i = (match lkL B i with
      | some o => some o
      | none => lkL [(b, .mrow T j ro)] i) := fun i => by rw [get_ofL, lkL_app]; cases lkL B i <;> rfl
  have old : ∀ {i : Nat} {o : AObj}, (ofL (B ++ [(b, .mrow T j ro)])).get i = some o → (ofL B).get i = some o ∨ (i = b ∧ o = .mrow T j ro) := by
    intro i o ho
    rw [hget] at ho
    cases hx : lkL B i with
    | some p => rw [hx] at ho; cases ho; exact .inl (by rw [get_ofL]; exact hx)
    | none =>
      rw [hx] at ho
      simp only [lkL] at ho
      cases hb2 : Nat.beq b i with
      | false => rw [hb2] at ho; cases ho
      | true => rw [hb2] at ho; cases ho; exact .inr ⟨(beq_iff.1 hb2).symm, rfl⟩
  refine ⟨hr.keeps, fun i x hx => ?_, fun i o ho => ?_, fun i j o p x y hne2 ho hp hlo hlp hw hx hy => ?_, fun i o x ho hw hx => ?_⟩
  · rw [hget]
    have := hr.dom i x hx
    rw [get_ofL] at this
    cases h5 : lkL B i with
    | none => exact absurd h5 this
    | some o => simp
  · rcases old ho with h | ⟨rfl, rfl⟩
    · exact hr.obj i o h
    · exact .inl ⟨hEb, hj⟩
  · rcases old ho with h | ⟨rfl, rfl⟩
    · rcases old hp with h2 | ⟨rfl, rfl⟩
      · exact hr.inj i j o p x y hne2 h h2 hlo hlp hw hx hy
      · rw [hEb] at hy; cases hy
    · rw [hEb] at hx; cases hx
  · rcases old ho with h | ⟨rfl, rfl⟩
    · exact hr.own i o x h hw hx
    · rw [hEb] at hx; cases hx
theorem goodS_ghost {d : Den} {g : FuncId} {A B : HL} {res : Value} {an : List Nat} {k : List KI} {e : Exit} {fv : FV} {n c : Nat} {A2 : HL} {b T j : Nat} {ro : Bool} (hg : GoodS d P g A res B an (headC k e fv n c (A2 ++ [(b, .mrow T j ro)]))) (hb : lkL A2 b = none) (hj : d.row j = []) : GoodS d P g A res B an (headC k e fv n c A2) :=
  ⟨fun fn hfn w F E0 Fe n hW hA E a w' han hf hr => hg.get fn hfn w F E0 Fe n hW hA E a w' han hf (@ghostD P d _ _ _ _ _ hr b hb T j ro hj)⟩
def slotsOK [Den] : FV → FV → Prop
  | [], [] => True
  | (k, v) :: l, (k', v') :: l' => k = k' ∧ (v' = v ∨ ∃ i, v = .chan (some i) ∧ Den.o i = v') ∧ slotsOK l l'
  | _, _ => False
theorem slots_get [Den] : ∀ {l l' : FV}, slotsOK l l' → ∀ {k : Nat} {v : Value}, lkV l k = some v → ∃ v', lkV l' k = some v' ∧ (v' = v ∨ ∃ i, v = .chan (some i) ∧ Den.o i = v')
  | [], [], _, k, v, h => by cases h
  | (i, u) :: l, (i', u') :: l', ⟨h1, h2, h3⟩, k, v, h => by
    subst h1
    simp only [lkV] at h ⊢
    cases hb : Nat.beq i k with
    | true => rw [hb] at h; cases h; exact ⟨_, rfl, h2⟩
    | false => rw [hb] at h; exact slots_get h3 h
  | [], _ :: _, h, _, _, _ => h.elim
  | _ :: _, [], h, _, _, _ => h.elim
theorem goodS_slots {d : Den} {g : FuncId} {A B : HL} {res : Value} {an : List Nat} {k : List KI} {e : Exit} {fv fv' : FV} {n c : Nat} {A2 : HL} (hs : @slotsOK d fv fv') (hg : GoodS d P g A res B an (headC k e fv n c A2)) : GoodS d P g A res B an (headC k e fv' n c A2) :=
  ⟨fun fn hfn w F E0 Fe m hW hA E a w' han hf hr => hg.get fn hfn w F E0 Fe m hW hA E a w' han (by
    have e1 := @FR.defers d _ _ _ _ hf
    have e2 := @FR.ro d _ _ _ _ hf
    refine @FR.mk d _ _ _ _ e1 e2 ?_
    have ht := @FR.tr d _ _ _ _ hf
    have e3 := @TR.size d _ _ _ ht
    refine @TR.mk d _ _ _ e3 fun q v hq => ?_
    have hq2 : lkV fv q = some v := by rw [← get_ofV]; exact hq
    obtain ⟨v', h1, h2⟩ := slots_get hs hq2
    obtain ⟨h3, h4⟩ := @TR.val d _ _ _ ht q v' (by show (ofV fv').get q = _; rw [get_ofV]; exact h1)
    rcases h2 with h2 | ⟨i, rfl, h2⟩
    · exact ⟨h3, h2 ▸ h4⟩
    · exact ⟨h3, @VR.opq d _ i _ (h2 ▸ h4)⟩) hr⟩
theorem app_nilG {q : Nat} (hq : Nat.ble q 1 = true) {st xt e : TypeId} {size bytes : Nat} {z : Value} (ht : ElemT P st xt e size bytes z) (o0 : AObj) {l : List Value} {m off cp : Nat} {T : TypeId} (hm : 1 ≤ m) (hl : off + m * size ≤ l.length) (hp : l.all plainS = true) (h1 : m * bytes ≤ 70368744177664) (h2 : m < HALF) :
    AppC P [st, xt] [.slice none 0 q, .slice (some ⟨1, off, none⟩) m cp] [(0, o0), (1, .row T (.lst l) true)] (.slice (some ⟨2, 0, none⟩) m INF) [(0, .dead), (2, .row e (.lst ((l.drop off).take (m * size))) false)] := by
  refine AppC.of_run (app_nil hq (H := ofL [(0, o0), (1, .row T (.lst l) true)]) (c := 2) ht (by rw [get_ofL]; rfl) (by rw [get_ofL]; rfl) hm hl hp h1 h2) (fun b o hb => ?_) rfl
  simp only [lkL] at hb
  cases h0 : Nat.beq 0 b with
  | true =>
    rw [h0] at hb
    cases hb
    have := beq_iff.1 h0; subst this
    exact ⟨o0, by rw [Tr.get_set_ne _ _ (by omega), get_ofL]; rfl, .inl rfl⟩
  | false =>
    rw [h0] at hb
    simp only [cond_false] at hb
    cases h : Nat.beq 2 b with
    | false => rw [h] at hb; cases hb
    | true =>
      rw [h] at hb
      cases hb
      have := beq_iff.1 h; subst this
      refine ⟨_, Tr.get_set_self _ _ _, .inr ⟨_, _, _, _, _, rfl, rfl, fun h => h, fun k v hk => by rw [mk_get]; exact hk, ?_⟩⟩
      rw [List.all_eq_true] at hp ⊢
      exact fun x hx => hp x (List.mem_of_mem_drop (List.mem_of_mem_take hx))
end Go.Sx
namespace Go.Proofs.Ytpennfojidpmeaa
open Go.Sx
set_option maxRecDepth 20000
theorem dcopy_ctr {d : Dv} (hd : DOK d) : Ctr Try.prog 114 [pt 0 0] (devH d true) (pt 2 0) [(2, .dead)] := by
  refine Ctr.ptrOnly (B := [(2, .row 95 (.lst (.slice (some ⟨3, 0, none⟩) d.n INF :: devC d)) false), (3, .row 114 (.lst (enc secL d.S)) false)]) ?_ rfl
  have ⟨g1, g2⟩ := hd.nd
  have hcl := cloneS_ctr (S := d.S) (i := 0) (m := d.n) (cp := d.n) hd.nb.1 (by rw [hd.len, Nat.zero_add]) (by have := hd.nb; unfold HALF; omega)
  exact pth (denQ (devC d) rfl [.v (.slice (some ⟨1, 0, none⟩) d.n d.n), .v (.slice (some ⟨3, 0, none⟩) d.n INF)] rfl [enc secL d.S, enc secL d.S] (PL.cons (enc_plain secL_plain _) (PL.cons (enc_plain secL_plain _) no_rows))) ⟨[(.bin .gtr 3 (sv 8) (.int .i64 0), .bool true)], [], []⟩ [(150, [⟨[.chan (some 0)], 3, [], [⟨1, 1, true, .orow 114 0 true, .orow 114 0 true⟩], [(2, .orow 114 1 false)], .chan (some 1)⟩])] ⟨qT ((d.nd) > (0)) (by omega), trivial⟩ trivial trivial ⟨oe hcl, trivial⟩ 2 ([(0, .row 95 (.lst (ch 0 :: svs 0 13)) true), (1, .orow 114 0 true)]) [pt 0 0] [(2, 2), (3, 3)]
theorem may_ctr {d : Dv} (hd : DOK d) {j : Jb} (hj : MayJ j) (hs : sects j = d.n) {n : Int} (hn : 0 ≤ n ∧ n < j.nodes) : Ctr Try.prog 60 [pt 0 0, jobV j, iv n] (devH d true) (iv 0) [] := by
  have ⟨g1, g2⟩ := hd.nd
  have hcopy := dcopy_ctr hd
  have hsec := sectors_ctr hj
  exact pth (denQ (jobL j ++ [.int .i64 (n)] ++ devC d ++ [.int .i64 (sects j), .int .i64 (d.n)]) rfl [.v (.slice (some ⟨1, 0, none⟩) d.n d.n)] rfl [enc secL d.S] (PL.cons (enc_plain secL_plain _) no_rows)) ⟨[(.bin .lss 3 (sv 5) (.int .i64 0), .bool false), (.bin .geq 3 (sv 5) (sv 0), .bool false), (.bin .gtr 3 (sv 14) (.int .i64 0), .bool true), (.len 92 (.chan (some 0)), sv 20), (.bin .lss 3 (sv 20) (sv 19), .bool false)], [], []⟩ [(114, [⟨[.pointer (some ⟨0, 0, none⟩)], 3, [], [⟨0, 0, true, .row 95 (.lst ([.chan (some 0)] ++ svs 6 13)) true, .row 95 (.lst ([.chan (some 0)] ++ svs 6 13)) true⟩, ⟨1, 1, true, .orow 114 0 true, .orow 114 0 true⟩], [(2, .dead)], .pointer (some ⟨3, 0, none⟩)⟩]), (115, [⟨[.agg #[sv 0, sv 1, sv 2, sv 3, sv 4]], 4, [], [], [], .tuple #[sv 19, .int .i64 0]⟩])] ⟨qF ((n) < (0)) (by omega), qF ((n) ≥ (j.nodes)) (by omega), qT ((d.nd) > (0)) (by omega), asLen u92 rfl (by kernel_rfl), qF ((d.n) < (sects j)) (by omega), trivial⟩ trivial trivial ⟨oe hcopy, oe hsec, trivial⟩ 2 ([(0, .row 95 (.lst (ch 0 :: svs 6 13)) true), (1, .orow 114 0 true)]) [pt 0 0, vA 0 5, sv 5] []
def max1 (y : Int) : Int := if y > 1 then y else 1
theorem appR (L : List Rec) (x : Rec) (cp : Nat) (hl : L.length < 1000000) {z : Nat} (hz : Nat.ble z 1 = true := by rfl) : AppC Try.prog [43, 43] [mSl 0 L.length INF z, .slice (some ⟨1, 0, none⟩) 1 cp] [(0, rowOr 47 (enc recL L) false), (1, .row 47 (.lst (recL x)) true)] (mSl 2 (L ++ [x]).length INF z) [(0, .dead), (2, rowOr 47 (enc recL (L ++ [x])) false)] := by
  cases L with
  | nil =>
    have h := app_nilG (P := Try.prog) (q := z) hz etR (rowOr 47 (enc recL []) false) (l := recL x) (m := 1) (off := 0) (cp := cp) (T := 47) (by decide) (by rw [recL_len]; decide) (recL_plain x) (by decide) (by unfold HALF; decide)
    exact h
  | cons y r =>
    have h := AppC.inf (P := Try.prog) etR (bl := enc recL (y :: r)) (l := recL x) (n := (y :: r).length) (m := 1) (off := 0) (cp := cp) (T := 47) (enc_len recL_len _) (enc_plain recL_plain _) (by decide) (by rw [recL_len]; decide) (recL_plain x) (by omega) (by unfold HALF; omega)
    have e : enc recL (y :: r) ++ ((recL x).drop 0).take (1 * 101) = enc recL ((y :: r) ++ [x]) := by rw [enc_app]; rfl
    rw [e] at h
    have e2 : (y :: r).length + 1 = ((y :: r) ++ [x]).length := by simp
    rw [e2] at h
    exact h
noncomputable def scanL (d : Dv) (j : Jb) (n : Int) : Nat → Int → Int → List Rec
  | 0, _, _ => []
  | k + 1, m, le => if m < 2147483647 then (match getM (gt d.S (recAt j n m).toNat) (gt d.S (recAt j n m + 1).toNat) with
    | some r => if r.node = n ∧ r.lsn = m ∧ le ≤ r.epoch ∧ r.page < j.pages then r :: scanL d j n k (m + 1) r.epoch else []
    | none => []) else []
noncomputable abbrev dSc (d : Dv) (j : Jb) (n s e : Int) (out : List Rec) (l : Rec) (m : Int) : Den := denQ (jobL j ++ [iv n, iv s, iv e] ++ recL l ++ [iv m] ++ devC d) rfl [.v (.slice (some ⟨1, 0, none⟩) d.n d.n), om 7 out.length INF] rfl [enc secL d.S, enc recL out] (PL.cons (enc_plain secL_plain _) (PL.cons (enc_plain recL_plain _) no_rows))
def aSc : HL := [(0, .row 95 (.lst (ch 0 :: svs 110 13)) true), (1, .orow 114 0 true), (2, .row 26 (.lst [pt 0 0]) false), (3, .row 24 (.lst (svs 0 5)) false), (4, .row 3 (.lst [sv 5]) false), (5, .row 112 (.lst [sv 6, sv 7]) false), (6, .row 47 (.lst (svs 8 101)) false)]
def fSc (v : Value) : FV := [(3, pt 2 0), (4, pt 3 0), (5, pt 4 0), (13, pt 5 0), (15, .func (.func 117) #[] #[pt 3 0, pt 4 0, pt 2 0]), (16, pt 6 0), (17, v), (18, sv 109)]
noncomputable def xSc : Cfg := headC (hd 61 0) .normal (fSc (ch 1)) 109 8 (aSc ++ [(7, .mrow 47 1 false)])
abbrev GSc (d : Dv) (j : Jb) (n s e : Int) (out : List Rec) (l : Rec) (m : Int) (res : Value) (B : HL) : Prop := GoodS (dSc d j n s e out l m) Try.prog 61 (devH d true) res B [] xSc
section
variable {d : Dv} {j : Jb} {n s e m : Int} {out : List Rec} {l r : Rec} (hj : MayJ j) (hsb : 1 ≤ s ∧ s ≤ 2147483647)
include hj hsb
theorem sc_end (hm : m = s + j.log) : GSc d j n s e out l m (.tuple #[iv s, mSl 2 out.length INF 0, iv 0]) [(2, rowOr 47 (enc recL out) false)] := by
  have ⟨d1, d2⟩ := hj.l
  have hnb := hj.n
  · exact gF (denQ (jobL j ++ [.int .i64 (n), .int .i64 (s), .int .i64 (e)] ++ recL l ++ [.int .i64 (m)] ++ devC d ++ [.int .i64 ((s) + (j.log))]) rfl [.v (.slice (some ⟨1, 0, none⟩) d.n d.n), om 7 out.length INF] rfl [enc secL d.S, enc recL out] (PL.cons (enc_plain secL_plain _) (PL.cons (enc_plain recL_plain _) no_rows))) ⟨[(.bin .add 2 (sv 6) (sv 3), sv 123), (.bin .lss 2 (sv 109) (sv 123), .bool false)], [], []⟩ [] ⟨aq (.int .i64 ((s) + (j.log))) (.int .i64 (IntKind.i64.wrap ((s) + (j.log)))) (wVi64 ((s) + (j.log)) (by omega) (by omega)), qF ((m) < ((s) + (j.log))) (by omega), trivial⟩ trivial trivial trivial 11 [(7, 2)]
theorem sc_max (hm1 : m < s + j.log) (hm : 2147483647 ≤ m) : GSc d j n s e out l m (.tuple #[iv s, mSl 2 out.length INF 0, iv 0]) [(2, rowOr 47 (enc recL out) false)] := by
  have ⟨d1, d2⟩ := hj.l
  have hnb := hj.n
  · exact gF (denQ (jobL j ++ [.int .i64 (n), .int .i64 (s), .int .i64 (e)] ++ recL l ++ [.int .i64 (m)] ++ devC d ++ [.int .i64 ((s) + (j.log))]) rfl [.v (.slice (some ⟨1, 0, none⟩) d.n d.n), om 7 out.length INF] rfl [enc secL d.S, enc recL out] (PL.cons (enc_plain secL_plain _) (PL.cons (enc_plain recL_plain _) no_rows))) ⟨[(.bin .add 2 (sv 6) (sv 3), sv 123), (.bin .lss 2 (sv 109) (sv 123), .bool true), (.bin .lss 2 (sv 109) (.int .i64 2147483647), .bool false)], [], []⟩ [] ⟨aq (.int .i64 ((s) + (j.log))) (.int .i64 (IntKind.i64.wrap ((s) + (j.log)))) (wVi64 ((s) + (j.log)) (by omega) (by omega)), qT ((m) < ((s) + (j.log))) (by omega), qF ((m) < (2147483647)) (by omega), trivial⟩ trivial trivial trivial 11 [(7, 2)]
theorem sc_none (hn : 0 ≤ n ∧ n < j.nodes) (hk : 1 ≤ m ∧ m ≤ 2147483647) (hm1 : m < s + j.log) (hm2 : m < 2147483647)
    (h1 : Ctr Try.prog 103 [pt 0 0, iv (recAt j n m)] (devH d true) (.tuple #[secV (gt d.S (recAt j n m).toNat), iv 0]) []) (h2 : Ctr Try.prog 103 [pt 0 0, iv (recAt j n m + 1)] (devH d true) (.tuple #[secV (gt d.S (recAt j n m + 1).toNat), iv 0]) []) (hb : 9 ≤ recAt j n m ∧ recAt j n m ≤ 4096) (hG : Ctr Try.prog 105 [secV (gt d.S (recAt j n m).toNat), secV (gt d.S (recAt j n m + 1).toNat)] [] (.tuple #[recV zeroR, iv 12]) []) : GSc d j n s e out l m (.tuple #[iv s, mSl 2 out.length INF 0, iv 0]) [(2, rowOr 47 (enc recL out) false)] := by
  have ⟨d1, d2⟩ := hj.l
  have hnb := hj.n
  · exact gF (denQ (jobL j ++ [.int .i64 (n), .int .i64 (s), .int .i64 (e)] ++ recL l ++ [.int .i64 (m)] ++ devC d ++ [.int .i64 ((s) + (j.log)), .int .i64 (recAt j n m)] ++ secL (gt d.S (recAt j n m).toNat) ++ [.int .i64 ((recAt j n m) + (1))] ++ secL (gt d.S (recAt j n m + 1).toNat)) rfl [.v (.slice (some ⟨1, 0, none⟩) d.n d.n), om 7 out.length INF] rfl [enc secL d.S, enc recL out] (PL.cons (enc_plain secL_plain _) (PL.cons (enc_plain recL_plain _) no_rows))) ⟨[(.bin .add 2 (sv 6) (sv 3), sv 123), (.bin .lss 2 (sv 109) (sv 123), .bool true), (.bin .lss 2 (sv 109) (.int .i64 2147483647), .bool true), (.bin .add 3 (sv 124) (.int .i64 1), sv 189)], [], []⟩ [(64, [⟨[.agg #[sv 0, sv 1, sv 2, sv 3, sv 4], sv 5, sv 109], 10, [], [], [], .tuple #[sv 124, .int .i64 0]⟩]), (103, [⟨[.pointer (some ⟨0, 0, none⟩), sv 124], 10, [], [⟨0, 0, true, .row 95 (.lst ([.chan (some 0)] ++ svs 110 13)) true, .row 95 (.lst ([.chan (some 0)] ++ svs 110 13)) true⟩, ⟨1, 1, true, .orow 114 0 true, .orow 114 0 true⟩], [], .tuple #[.agg (svs 125 64).toArray, .int .i64 0]⟩, ⟨[.pointer (some ⟨0, 0, none⟩), sv 189], 11, [], [⟨0, 0, true, .row 95 (.lst ([.chan (some 0)] ++ svs 110 13)) true, .row 95 (.lst ([.chan (some 0)] ++ svs 110 13)) true⟩, ⟨1, 1, true, .orow 114 0 true, .orow 114 0 true⟩], [], .tuple #[.agg (svs 190 64).toArray, .int .i64 0]⟩]), (105, [⟨[.agg (svs 125 64).toArray, .agg (svs 190 64).toArray], 12, [], [], [], .tuple #[.agg ([.int .i64 0, .int .i64 0, .int .i64 0, .int .i64 0, .int .i64 0, .int .u8 0, .int .u8 0, .int .u8 0, .int .u8 0, .int .u8 0, .int .u8 0, .int .u8 0, .int .u8 0, .int .u8 0, .int .u8 0, .int .u8 0, .int .u8 0, .int .u8 0, .int .u8 0, .int .u8 0, .int .u8 0, .int .u8 0, .int .u8 0, .int .u8 0, .int .u8 0, .int .u8 0, .int .u8 0, .int .u8 0, .int .u8 0, .int .u8 0, .int .u8 0, .int .u8 0, .int .u8 0, .int .u8 0, .int .u8 0, .int .u8 0, .int .u8 0, .int .u8 0, .int .u8 0, .int .u8 0, .int .u8 0, .int .u8 0, .int .u8 0, .int .u8 0, .int .u8 0, .int .u8 0, .int .u8 0, .int .u8 0, .int .u8 0, .int .u8 0, .int .u8 0, .int .u8 0, .int .u8 0, .int .u8 0, .int .u8 0, .int .u8 0, .int .u8 0, .int .u8 0, .int .u8 0, .int .u8 0, .int .u8 0, .int .u8 0, .int .u8 0, .int .u8 0, .int .u8 0, .int .u8 0, .int .u8 0, .int .u8 0, .int .u8 0, .int .u8 0, .int .u8 0, .int .u8 0, .int .u8 0, .int .u8 0, .int .u8 0, .int .u8 0, .int .u8 0, .int .u8 0, .int .u8 0, .int .u8 0, .int .u8 0, .int .u8 0, .int .u8 0, .int .u8 0, .int .u8 0, .int .u8 0, .int .u8 0, .int .u8 0, .int .u8 0, .int .u8 0, .int .u8 0, .int .u8 0, .int .u8 0, .int .u8 0, .int .u8 0, .int .u8 0, .int .u8 0, .int .u8 0, .int .u8 0, .int .u8 0, .int .u8 0]).toArray, .int .i64 12]⟩])] ⟨aq (.int .i64 ((s) + (j.log))) (.int .i64 (IntKind.i64.wrap ((s) + (j.log)))) (wVi64 ((s) + (j.log)) (by omega) (by omega)), qT ((m) < ((s) + (j.log))) (by omega), qT ((m) < (2147483647)) (by omega), aq (.int .i64 ((recAt j n m) + (1))) (.int .i64 (IntKind.i64.wrap ((recAt j n m) + (1)))) (wVi64 ((recAt j n m) + (1)) (by omega) (by omega)), trivial⟩ trivial trivial ⟨oe (record_ctr hj hn hk), oe2 (oe h1) (oe h2), oe hG, trivial⟩ 21 [(7, 2)]
theorem sc_1 (hn : 0 ≤ n ∧ n < j.nodes) (hk : 1 ≤ m ∧ m ≤ 2147483647) (hm1 : m < s + j.log) (hm2 : m < 2147483647)
    (h1 : Ctr Try.prog 103 [pt 0 0, iv (recAt j n m)] (devH d true) (.tuple #[secV (gt d.S (recAt j n m).toNat), iv 0]) []) (h2 : Ctr Try.prog 103 [pt 0 0, iv (recAt j n m + 1)] (devH d true) (.tuple #[secV (gt d.S (recAt j n m + 1).toNat), iv 0]) []) (hb : 9 ≤ recAt j n m ∧ recAt j n m ≤ 4096) (hG : Ctr Try.prog 105 [secV (gt d.S (recAt j n m).toNat), secV (gt d.S (recAt j n m + 1).toNat)] [] (.tuple #[recV r, iv 0]) []) (q : r.node ≠ n) : GSc d j n s e out l m (.tuple #[iv s, mSl 2 out.length INF 0, iv 0]) [(2, rowOr 47 (enc recL out) false)] := by
  have ⟨d1, d2⟩ := hj.l
  have hnb := hj.n
  · exact gF (denQ (jobL j ++ [.int .i64 (n), .int .i64 (s), .int .i64 (e)] ++ recL l ++ [.int .i64 (m)] ++ devC d ++ [.int .i64 ((s) + (j.log)), .int .i64 (recAt j n m)] ++ secL (gt d.S (recAt j n m).toNat) ++ [.int .i64 ((recAt j n m) + (1))] ++ secL (gt d.S (recAt j n m + 1).toNat) ++ recL r) rfl [.v (.slice (some ⟨1, 0, none⟩) d.n d.n), om 7 out.length INF] rfl [enc secL d.S, enc recL out] (PL.cons (enc_plain secL_plain _) (PL.cons (enc_plain recL_plain _) no_rows))) ⟨[(.bin .add 2 (sv 6) (sv 3), sv 123), (.bin .lss 2 (sv 109) (sv 123), .bool true), (.bin .lss 2 (sv 109) (.int .i64 2147483647), .bool true), (.bin .add 3 (sv 124) (.int .i64 1), sv 189), (.bin .neq 3 (sv 254) (sv 5), .bool true)], [], []⟩ [(64, [⟨[.agg #[sv 0, sv 1, sv 2, sv 3, sv 4], sv 5, sv 109], 10, [], [], [], .tuple #[sv 124, .int .i64 0]⟩]), (103, [⟨[.pointer (some ⟨0, 0, none⟩), sv 124], 10, [], [⟨0, 0, true, .row 95 (.lst ([.chan (some 0)] ++ svs 110 13)) true, .row 95 (.lst ([.chan (some 0)] ++ svs 110 13)) true⟩, ⟨1, 1, true, .orow 114 0 true, .orow 114 0 true⟩], [], .tuple #[.agg (svs 125 64).toArray, .int .i64 0]⟩, ⟨[.pointer (some ⟨0, 0, none⟩), sv 189], 11, [], [⟨0, 0, true, .row 95 (.lst ([.chan (some 0)] ++ svs 110 13)) true, .row 95 (.lst ([.chan (some 0)] ++ svs 110 13)) true⟩, ⟨1, 1, true, .orow 114 0 true, .orow 114 0 true⟩], [], .tuple #[.agg (svs 190 64).toArray, .int .i64 0]⟩]), (105, [⟨[.agg (svs 125 64).toArray, .agg (svs 190 64).toArray], 12, [], [], [], .tuple #[.agg (svs 254 101).toArray, .int .i64 0]⟩])] ⟨aq (.int .i64 ((s) + (j.log))) (.int .i64 (IntKind.i64.wrap ((s) + (j.log)))) (wVi64 ((s) + (j.log)) (by omega) (by omega)), qT ((m) < ((s) + (j.log))) (by omega), qT ((m) < (2147483647)) (by omega), aq (.int .i64 ((recAt j n m) + (1))) (.int .i64 (IntKind.i64.wrap ((recAt j n m) + (1)))) (wVi64 ((recAt j n m) + (1)) (by omega) (by omega)), nT (r.node) (n) (by omega), trivial⟩ trivial trivial ⟨oe (record_ctr hj hn hk), oe2 (oe h1) (oe h2), oe hG, trivial⟩ 21 [(7, 2)]
theorem sc_2 (hn : 0 ≤ n ∧ n < j.nodes) (hk : 1 ≤ m ∧ m ≤ 2147483647) (hm1 : m < s + j.log) (hm2 : m < 2147483647)
    (h1 : Ctr Try.prog 103 [pt 0 0, iv (recAt j n m)] (devH d true) (.tuple #[secV (gt d.S (recAt j n m).toNat), iv 0]) []) (h2 : Ctr Try.prog 103 [pt 0 0, iv (recAt j n m + 1)] (devH d true) (.tuple #[secV (gt d.S (recAt j n m + 1).toNat), iv 0]) []) (hb : 9 ≤ recAt j n m ∧ recAt j n m ≤ 4096) (hG : Ctr Try.prog 105 [secV (gt d.S (recAt j n m).toNat), secV (gt d.S (recAt j n m + 1).toNat)] [] (.tuple #[recV r, iv 0]) []) (q1 : r.node = n) (q : r.lsn ≠ m) : GSc d j n s e out l m (.tuple #[iv s, mSl 2 out.length INF 0, iv 0]) [(2, rowOr 47 (enc recL out) false)] := by
  have ⟨d1, d2⟩ := hj.l
  have hnb := hj.n
  · exact gF (denQ (jobL j ++ [.int .i64 (n), .int .i64 (s), .int .i64 (e)] ++ recL l ++ [.int .i64 (m)] ++ devC d ++ [.int .i64 ((s) + (j.log)), .int .i64 (recAt j n m)] ++ secL (gt d.S (recAt j n m).toNat) ++ [.int .i64 ((recAt j n m) + (1))] ++ secL (gt d.S (recAt j n m + 1).toNat) ++ recL r) rfl [.v (.slice (some ⟨1, 0, none⟩) d.n d.n), om 7 out.length INF] rfl [enc secL d.S, enc recL out] (PL.cons (enc_plain secL_plain _) (PL.cons (enc_plain recL_plain _) no_rows))) ⟨[(.bin .add 2 (sv 6) (sv 3), sv 123), (.bin .lss 2 (sv 109) (sv 123), .bool true), (.bin .lss 2 (sv 109) (.int .i64 2147483647), .bool true), (.bin .add 3 (sv 124) (.int .i64 1), sv 189), (.bin .neq 3 (sv 254) (sv 5), .bool false), (.bin .neq 2 (sv 256) (sv 109), .bool true)], [], []⟩ [(64, [⟨[.agg #[sv 0, sv 1, sv 2, sv 3, sv 4], sv 5, sv 109], 10, [], [], [], .tuple #[sv 124, .int .i64 0]⟩]), (103, [⟨[.pointer (some ⟨0, 0, none⟩), sv 124], 10, [], [⟨0, 0, true, .row 95 (.lst ([.chan (some 0)] ++ svs 110 13)) true, .row 95 (.lst ([.chan (some 0)] ++ svs 110 13)) true⟩, ⟨1, 1, true, .orow 114 0 true, .orow 114 0 true⟩], [], .tuple #[.agg (svs 125 64).toArray, .int .i64 0]⟩, ⟨[.pointer (some ⟨0, 0, none⟩), sv 189], 11, [], [⟨0, 0, true, .row 95 (.lst ([.chan (some 0)] ++ svs 110 13)) true, .row 95 (.lst ([.chan (some 0)] ++ svs 110 13)) true⟩, ⟨1, 1, true, .orow 114 0 true, .orow 114 0 true⟩], [], .tuple #[.agg (svs 190 64).toArray, .int .i64 0]⟩]), (105, [⟨[.agg (svs 125 64).toArray, .agg (svs 190 64).toArray], 12, [], [], [], .tuple #[.agg (svs 254 101).toArray, .int .i64 0]⟩])] ⟨aq (.int .i64 ((s) + (j.log))) (.int .i64 (IntKind.i64.wrap ((s) + (j.log)))) (wVi64 ((s) + (j.log)) (by omega) (by omega)), qT ((m) < ((s) + (j.log))) (by omega), qT ((m) < (2147483647)) (by omega), aq (.int .i64 ((recAt j n m) + (1))) (.int .i64 (IntKind.i64.wrap ((recAt j n m) + (1)))) (wVi64 ((recAt j n m) + (1)) (by omega) (by omega)), nF (r.node) (n) (by omega), nT (r.lsn) (m) (by omega), trivial⟩ trivial trivial ⟨oe (record_ctr hj hn hk), oe2 (oe h1) (oe h2), oe hG, trivial⟩ 21 [(7, 2)]
theorem sc_3 (hn : 0 ≤ n ∧ n < j.nodes) (hk : 1 ≤ m ∧ m ≤ 2147483647) (hm1 : m < s + j.log) (hm2 : m < 2147483647)
    (h1 : Ctr Try.prog 103 [pt 0 0, iv (recAt j n m)] (devH d true) (.tuple #[secV (gt d.S (recAt j n m).toNat), iv 0]) []) (h2 : Ctr Try.prog 103 [pt 0 0, iv (recAt j n m + 1)] (devH d true) (.tuple #[secV (gt d.S (recAt j n m + 1).toNat), iv 0]) []) (hb : 9 ≤ recAt j n m ∧ recAt j n m ≤ 4096) (hG : Ctr Try.prog 105 [secV (gt d.S (recAt j n m).toNat), secV (gt d.S (recAt j n m + 1).toNat)] [] (.tuple #[recV r, iv 0]) []) (q1 : r.node = n) (q2 : r.lsn = m) (q : r.epoch < l.epoch) : GSc d j n s e out l m (.tuple #[iv s, mSl 2 out.length INF 0, iv 0]) [(2, rowOr 47 (enc recL out) false)] := by
  have ⟨d1, d2⟩ := hj.l
  have hnb := hj.n
  · exact gF (denQ (jobL j ++ [.int .i64 (n), .int .i64 (s), .int .i64 (e)] ++ recL l ++ [.int .i64 (m)] ++ devC d ++ [.int .i64 ((s) + (j.log)), .int .i64 (recAt j n m)] ++ secL (gt d.S (recAt j n m).toNat) ++ [.int .i64 ((recAt j n m) + (1))] ++ secL (gt d.S (recAt j n m + 1).toNat) ++ recL r) rfl [.v (.slice (some ⟨1, 0, none⟩) d.n d.n), om 7 out.length INF] rfl [enc secL d.S, enc recL out] (PL.cons (enc_plain secL_plain _) (PL.cons (enc_plain recL_plain _) no_rows))) ⟨[(.bin .add 2 (sv 6) (sv 3), sv 123), (.bin .lss 2 (sv 109) (sv 123), .bool true), (.bin .lss 2 (sv 109) (.int .i64 2147483647), .bool true), (.bin .add 3 (sv 124) (.int .i64 1), sv 189), (.bin .neq 3 (sv 254) (sv 5), .bool false), (.bin .neq 2 (sv 256) (sv 109), .bool false), (.bin .lss 2 (sv 255) (sv 9), .bool true)], [], []⟩ [(64, [⟨[.agg #[sv 0, sv 1, sv 2, sv 3, sv 4], sv 5, sv 109], 10, [], [], [], .tuple #[sv 124, .int .i64 0]⟩]), (103, [⟨[.pointer (some ⟨0, 0, none⟩), sv 124], 10, [], [⟨0, 0, true, .row 95 (.lst ([.chan (some 0)] ++ svs 110 13)) true, .row 95 (.lst ([.chan (some 0)] ++ svs 110 13)) true⟩, ⟨1, 1, true, .orow 114 0 true, .orow 114 0 true⟩], [], .tuple #[.agg (svs 125 64).toArray, .int .i64 0]⟩, ⟨[.pointer (some ⟨0, 0, none⟩), sv 189], 11, [], [⟨0, 0, true, .row 95 (.lst ([.chan (some 0)] ++ svs 110 13)) true, .row 95 (.lst ([.chan (some 0)] ++ svs 110 13)) true⟩, ⟨1, 1, true, .orow 114 0 true, .orow 114 0 true⟩], [], .tuple #[.agg (svs 190 64).toArray, .int .i64 0]⟩]), (105, [⟨[.agg (svs 125 64).toArray, .agg (svs 190 64).toArray], 12, [], [], [], .tuple #[.agg (svs 254 101).toArray, .int .i64 0]⟩])] ⟨aq (.int .i64 ((s) + (j.log))) (.int .i64 (IntKind.i64.wrap ((s) + (j.log)))) (wVi64 ((s) + (j.log)) (by omega) (by omega)), qT ((m) < ((s) + (j.log))) (by omega), qT ((m) < (2147483647)) (by omega), aq (.int .i64 ((recAt j n m) + (1))) (.int .i64 (IntKind.i64.wrap ((recAt j n m) + (1)))) (wVi64 ((recAt j n m) + (1)) (by omega) (by omega)), nF (r.node) (n) (by omega), nF (r.lsn) (m) (by omega), qT ((r.epoch) < (l.epoch)) (by omega), trivial⟩ trivial trivial ⟨oe (record_ctr hj hn hk), oe2 (oe h1) (oe h2), oe hG, trivial⟩ 21 [(7, 2)]
theorem sc_4 (hn : 0 ≤ n ∧ n < j.nodes) (hk : 1 ≤ m ∧ m ≤ 2147483647) (hm1 : m < s + j.log) (hm2 : m < 2147483647)
    (h1 : Ctr Try.prog 103 [pt 0 0, iv (recAt j n m)] (devH d true) (.tuple #[secV (gt d.S (recAt j n m).toNat), iv 0]) []) (h2 : Ctr Try.prog 103 [pt 0 0, iv (recAt j n m + 1)] (devH d true) (.tuple #[secV (gt d.S (recAt j n m + 1).toNat), iv 0]) []) (hb : 9 ≤ recAt j n m ∧ recAt j n m ≤ 4096) (hG : Ctr Try.prog 105 [secV (gt d.S (recAt j n m).toNat), secV (gt d.S (recAt j n m + 1).toNat)] [] (.tuple #[recV r, iv 0]) []) (q1 : r.node = n) (q2 : r.lsn = m) (q3 : l.epoch ≤ r.epoch) (q : j.pages ≤ r.page) : GSc d j n s e out l m (.tuple #[iv s, mSl 2 out.length INF 0, iv 0]) [(2, rowOr 47 (enc recL out) false)] := by
  have ⟨d1, d2⟩ := hj.l
  have hnb := hj.n
  · exact gF (denQ (jobL j ++ [.int .i64 (n), .int .i64 (s), .int .i64 (e)] ++ recL l ++ [.int .i64 (m)] ++ devC d ++ [.int .i64 ((s) + (j.log)), .int .i64 (recAt j n m)] ++ secL (gt d.S (recAt j n m).toNat) ++ [.int .i64 ((recAt j n m) + (1))] ++ secL (gt d.S (recAt j n m + 1).toNat) ++ recL r) rfl [.v (.slice (some ⟨1, 0, none⟩) d.n d.n), om 7 out.length INF] rfl [enc secL d.S, enc recL out] (PL.cons (enc_plain secL_plain _) (PL.cons (enc_plain recL_plain _) no_rows))) ⟨[(.bin .add 2 (sv 6) (sv 3), sv 123), (.bin .lss 2 (sv 109) (sv 123), .bool true), (.bin .lss 2 (sv 109) (.int .i64 2147483647), .bool true), (.bin .add 3 (sv 124) (.int .i64 1), sv 189), (.bin .neq 3 (sv 254) (sv 5), .bool false), (.bin .neq 2 (sv 256) (sv 109), .bool false), (.bin .lss 2 (sv 255) (sv 9), .bool false), (.bin .geq 3 (sv 257) (sv 1), .bool true)], [], []⟩ [(64, [⟨[.agg #[sv 0, sv 1, sv 2, sv 3, sv 4], sv 5, sv 109], 10, [], [], [], .tuple #[sv 124, .int .i64 0]⟩]), (103, [⟨[.pointer (some ⟨0, 0, none⟩), sv 124], 10, [], [⟨0, 0, true, .row 95 (.lst ([.chan (some 0)] ++ svs 110 13)) true, .row 95 (.lst ([.chan (some 0)] ++ svs 110 13)) true⟩, ⟨1, 1, true, .orow 114 0 true, .orow 114 0 true⟩], [], .tuple #[.agg (svs 125 64).toArray, .int .i64 0]⟩, ⟨[.pointer (some ⟨0, 0, none⟩), sv 189], 11, [], [⟨0, 0, true, .row 95 (.lst ([.chan (some 0)] ++ svs 110 13)) true, .row 95 (.lst ([.chan (some 0)] ++ svs 110 13)) true⟩, ⟨1, 1, true, .orow 114 0 true, .orow 114 0 true⟩], [], .tuple #[.agg (svs 190 64).toArray, .int .i64 0]⟩]), (105, [⟨[.agg (svs 125 64).toArray, .agg (svs 190 64).toArray], 12, [], [], [], .tuple #[.agg (svs 254 101).toArray, .int .i64 0]⟩])] ⟨aq (.int .i64 ((s) + (j.log))) (.int .i64 (IntKind.i64.wrap ((s) + (j.log)))) (wVi64 ((s) + (j.log)) (by omega) (by omega)), qT ((m) < ((s) + (j.log))) (by omega), qT ((m) < (2147483647)) (by omega), aq (.int .i64 ((recAt j n m) + (1))) (.int .i64 (IntKind.i64.wrap ((recAt j n m) + (1)))) (wVi64 ((recAt j n m) + (1)) (by omega) (by omega)), nF (r.node) (n) (by omega), nF (r.lsn) (m) (by omega), qF ((r.epoch) < (l.epoch)) (by omega), qT ((r.page) ≥ (j.pages)) (by omega), trivial⟩ trivial trivial ⟨oe (record_ctr hj hn hk), oe2 (oe h1) (oe h2), oe hG, trivial⟩ 21 [(7, 2)]
theorem sc_ok (hn : 0 ≤ n ∧ n < j.nodes) (hk : 1 ≤ m ∧ m ≤ 2147483647) (hm1 : m < s + j.log) (hm2 : m < 2147483647)
    (h1 : Ctr Try.prog 103 [pt 0 0, iv (recAt j n m)] (devH d true) (.tuple #[secV (gt d.S (recAt j n m).toNat), iv 0]) []) (h2 : Ctr Try.prog 103 [pt 0 0, iv (recAt j n m + 1)] (devH d true) (.tuple #[secV (gt d.S (recAt j n m + 1).toNat), iv 0]) []) (hb : 9 ≤ recAt j n m ∧ recAt j n m ≤ 4096) (hG : Ctr Try.prog 105 [secV (gt d.S (recAt j n m).toNat), secV (gt d.S (recAt j n m + 1).toNat)] [] (.tuple #[recV r, iv 0]) []) (q1 : r.node = n) (q2 : r.lsn = m) (q3 : l.epoch ≤ r.epoch) (q : r.page < j.pages) (hol : out.length < 1000000) {res : Value} {B : HL} (hg : GSc d j n s e (out ++ [r]) r (m + 1) res B) : GSc d j n s e out l m res B := by
  have ⟨d1, d2⟩ := hj.l
  have hnb := hj.n
  · exact gS (denQ (jobL j ++ [.int .i64 (n), .int .i64 (s), .int .i64 (e)] ++ recL l ++ [.int .i64 (m)] ++ devC d ++ [.int .i64 ((s) + (j.log)), .int .i64 (recAt j n m)] ++ secL (gt d.S (recAt j n m).toNat) ++ [.int .i64 ((recAt j n m) + (1))] ++ secL (gt d.S (recAt j n m + 1).toNat) ++ recL r ++ [.int .i64 ((m) + (1))]) rfl [.v (.slice (some ⟨1, 0, none⟩) d.n d.n), om 7 out.length INF, om 14 (out ++ [r]).length INF] rfl [enc secL d.S, enc recL out, enc recL (out ++ [r])] (PL.cons (enc_plain secL_plain _) (PL.cons (enc_plain recL_plain _) (PL.cons (enc_plain recL_plain _) no_rows)))) (dSc d j n s e (out ++ [r]) r (m + 1)) ⟨[(.bin .add 2 (sv 6) (sv 3), sv 123), (.bin .lss 2 (sv 109) (sv 123), .bool true), (.bin .lss 2 (sv 109) (.int .i64 2147483647), .bool true), (.bin .add 3 (sv 124) (.int .i64 1), sv 189), (.bin .neq 3 (sv 254) (sv 5), .bool false), (.bin .neq 2 (sv 256) (sv 109), .bool false), (.bin .lss 2 (sv 255) (sv 9), .bool false), (.bin .geq 3 (sv 257) (sv 1), .bool false), (.bin .add 2 (sv 109) (.int .i64 1), sv 355)], [], [([43, 43], ⟨[.chan (some 1), .slice (some ⟨13, 0, none⟩) 1 1], 14, [], [⟨7, 0, false, .mrow 47 1 false, .dead⟩, ⟨13, 1, true, .row 47 (.lst (svs 254 101)) false, .row 47 (.lst (svs 254 101)) false⟩], [(2, .mrow 47 2 false)], .chan (some 2)⟩)]⟩ [(64, [⟨[.agg #[sv 0, sv 1, sv 2, sv 3, sv 4], sv 5, sv 109], 10, [], [], [], .tuple #[sv 124, .int .i64 0]⟩]), (103, [⟨[.pointer (some ⟨0, 0, none⟩), sv 124], 10, [], [⟨0, 0, true, .row 95 (.lst ([.chan (some 0)] ++ svs 110 13)) true, .row 95 (.lst ([.chan (some 0)] ++ svs 110 13)) true⟩, ⟨1, 1, true, .orow 114 0 true, .orow 114 0 true⟩], [], .tuple #[.agg (svs 125 64).toArray, .int .i64 0]⟩, ⟨[.pointer (some ⟨0, 0, none⟩), sv 189], 11, [], [⟨0, 0, true, .row 95 (.lst ([.chan (some 0)] ++ svs 110 13)) true, .row 95 (.lst ([.chan (some 0)] ++ svs 110 13)) true⟩, ⟨1, 1, true, .orow 114 0 true, .orow 114 0 true⟩], [], .tuple #[.agg (svs 190 64).toArray, .int .i64 0]⟩]), (105, [⟨[.agg (svs 125 64).toArray, .agg (svs 190 64).toArray], 12, [], [], [], .tuple #[.agg (svs 254 101).toArray, .int .i64 0]⟩])] ⟨aq (.int .i64 ((s) + (j.log))) (.int .i64 (IntKind.i64.wrap ((s) + (j.log)))) (wVi64 ((s) + (j.log)) (by omega) (by omega)), qT ((m) < ((s) + (j.log))) (by omega), qT ((m) < (2147483647)) (by omega), aq (.int .i64 ((recAt j n m) + (1))) (.int .i64 (IntKind.i64.wrap ((recAt j n m) + (1)))) (wVi64 ((recAt j n m) + (1)) (by omega) (by omega)), nF (r.node) (n) (by omega), nF (r.lsn) (m) (by omega), qF ((r.epoch) < (l.epoch)) (by omega), qF ((r.page) ≥ (j.pages)) (by omega), aq (.int .i64 ((m) + (1))) (.int .i64 (IntKind.i64.wrap ((m) + (1)))) (wVi64 ((m) + (1)) (by omega) (by omega)), trivial⟩ trivial ⟨ap (appR (z := 0) out r 1 hol), trivial⟩ ⟨oe (record_ctr hj hn hk), oe2 (oe h1) (oe h2), oe hG, trivial⟩ 18 [(0, 0), (1, 1), (2, 2), (3, 3), (4, 4), (5, 5), (6, 6), (14, 7)] hg
end
end Go.Proofs.Ytpennfojidpmeaa
namespace Go.Proofs.Ytpennfojidpmeaa
open Go.Sx
set_option maxRecDepth 20000
theorem recAt_bd {j : Jb} (hj : MayJ j) {n : Int} (hn : 0 ≤ n ∧ n < j.nodes) (k : Int) : 10 ≤ recAt j n k ∧ recAt j n k + 2 ≤ headAt j (n + 1) ∧ headAt j (n + 1) ≤ headAt j j.nodes ∧ recAt j n k + 2 < sects j := by
  have hl := hj.l
  have hp := hj.p
  have m1 := Int.emod_nonneg (k - 1) (b := j.log) (by omega)
  have m2 := Int.emod_lt_of_pos (k - 1) (b := j.log) (by omega)
  have hb := headAt_bd hj (n := n) ⟨hn.1, by have := hj.n; omega⟩
  have q : headAt j (n + 1) = headAt j n + (1 + 2 * j.log) := by unfold headAt; rw [Int.add_mul]; omega
  have q2 : headAt j (n + 1) ≤ headAt j j.nodes := by
    unfold headAt
    have := Int.mul_le_mul_of_nonneg_right (show n + 1 ≤ j.nodes by omega) (show 0 ≤ 1 + 2 * j.log by omega)
    omega
  unfold sects recAt
  omega
theorem getM_get {a b : Sec} (ha : Byte a) : (∃ r, getM a b = some r ∧ Ctr Try.prog 105 [secV a, secV b] [] (.tuple #[recV r, iv 0]) []) ∨ (getM a b = none ∧ Ctr Try.prog 105 [secV a, secV b] [] (.tuple #[recV zeroR, iv 12]) []) := by
  have h := get_ctr (b := b) ha
  unfold getV at h
  unfold getM
  by_cases h1 : May (said a b)
  · rw [if_pos h1] at h ⊢
    by_cases h2 : eqP (half (said a b) 0) (half (said a b) 1) a b = true
    · rw [if_pos h2] at h ⊢; exact .inl ⟨_, rfl, h⟩
    · rw [if_neg h2] at h ⊢; exact .inr ⟨rfl, h⟩
  · rw [if_neg h1] at h ⊢; exact .inr ⟨rfl, h⟩
theorem gt_byte {d : Dv} (hd : DOK d) (i : Nat) : Byte (gt d.S i) := by
  unfold gt
  cases h : d.S[i]? with
  | none => intro k; exact ⟨Int.le_refl _, show (0 : Int) < 256 by decide⟩
  | some s => exact hd.by' s (List.mem_of_getElem? h)
theorem sc_all {d : Dv} (hd : DOK d) {j : Jb} (hj : MayJ j) (hs : sects j = d.n) {n s e : Int} (hn : 0 ≤ n ∧ n < j.nodes) (hsb : 1 ≤ s ∧ s ≤ 2147483647) : ∀ (k : Nat) (m : Int) (out : List Rec) (l : Rec), m + k = s + j.log → s ≤ m → out.length + k ≤ 64 →
    GSc d j n s e out l m (.tuple #[iv s, mSl 2 (out ++ scanL d j n k m l.epoch).length INF 0, iv 0]) [(2, rowOr 47 (enc recL (out ++ scanL d j n k m l.epoch)) false)]
  | 0, m, out, l, h, h0, h1 => by
    simp only [scanL, List.append_nil]
    exact sc_end hj hsb (by omega)
  | k + 1, m, out, l, h, h0, h1 => by
    by_cases hm : m < 2147483647
    · simp only [scanL, if_pos hm]
      have hb := recAt_bd hj hn m
      have r1 := dread_ctr hd (i := recAt j n m) (by omega) (by omega)
      have r2 := dread_ctr hd (i := recAt j n m + 1) (by omega) (by omega)
      have hsz := sects_bd hj
      rcases getM_get (b := gt d.S (recAt j n m + 1).toNat) (gt_byte hd (recAt j n m).toNat) with ⟨r, hr, hG⟩ | ⟨hr, hG⟩
      · rw [hr]
        simp only
        by_cases q1 : r.node = n
        · by_cases q2 : r.lsn = m
          · by_cases q3 : l.epoch ≤ r.epoch
            · by_cases q4 : r.page < j.pages
              · rw [if_pos ⟨q1, q2, q3, q4⟩, List.append_cons]
                exact sc_ok hj hsb hn (by omega) (by omega) hm r1 r2 (by omega) hG q1 q2 q3 q4 (by omega) (sc_all hd hj hs hn hsb k (m + 1) (out ++ [r]) r (by omega) (by omega) (by simp; omega))
              · rw [if_neg fun h => q4 h.2.2.2, List.append_nil]
                exact sc_4 hj hsb hn (by omega) (by omega) hm r1 r2 (by omega) hG q1 q2 q3 (by omega)
            · rw [if_neg fun h => q3 h.2.2.1, List.append_nil]
              exact sc_3 hj hsb hn (by omega) (by omega) hm r1 r2 (by omega) hG q1 q2 (by omega)
          · rw [if_neg fun h => q2 h.2.1, List.append_nil]
            exact sc_2 hj hsb hn (by omega) (by omega) hm r1 r2 (by omega) hG q1 q2
        · rw [if_neg fun h => q1 h.1, List.append_nil]
          exact sc_1 hj hsb hn (by omega) (by omega) hm r1 r2 (by omega) hG q1
      · rw [hr]
        simp only [List.append_nil]
        exact sc_none hj hsb hn (by omega) (by omega) hm r1 r2 (by omega) hG
    · simp only [scanL, if_neg hm, List.append_nil]
      exact sc_max hj hsb (by omega) (by omega)
theorem scan_ok {d : Dv} (hd : DOK d) {j : Jb} (hj : MayJ j) (hs : sects j = d.n) {n s e : Int} (hn : 0 ≤ n ∧ n < j.nodes) (hsb : 1 ≤ s ∧ s ≤ 2147483647) (_heb : 0 ≤ e ∧ e ≤ 2147483647) (hh : headV (gt d.S (headAt j n).toNat) = .tuple #[.agg #[iv s, iv e], iv 0]) :
    Ctr Try.prog 61 [pt 0 0, jobV j, iv n] (devH d true) (.tuple #[iv s, mSl 2 (scanL d j n j.log.toNat s (max1 e)).length INF 0, iv 0]) [(2, rowOr 47 (enc recL (scanL d j n j.log.toNat s (max1 e))) false)] := by
  have hg := sc_all hd hj hs (e := e) hn hsb j.log.toNat s [] ⟨n, max1 e, s - 1, 0, 0, fun _ => 0⟩ (by have := hj.l; omega) (Int.le_refl _) (by have := hj.l; simp; omega)
  simp only [List.nil_append] at hg
  have hb := headAt_bd hj (n := n) ⟨hn.1, by have := hj.n; omega⟩
  have hb2 := recAt_bd hj hn 1
  have hq : headAt j n < sects j := by have hl := hj.l; have := Int.emod_nonneg (1 - 1) (b := j.log) (by omega); unfold recAt at hb2; omega
  have hrd := dread_ctr hd (i := headAt j n) (by omega) (by omega)
  have ht := take_ctr (gt_byte hd (headAt j n).toNat)
  rw [hh] at ht
  have hg := goodS_slots (fv := fSc (ch 1)) (fv' := fSc (.slice none 0 0)) (by simp only [slotsOK, fSc]; exact ⟨trivial, .inl trivial, trivial, .inl trivial, trivial, .inl trivial, trivial, .inl trivial, trivial, .inl trivial, trivial, .inl trivial, trivial, .inr ⟨1, rfl, rfl⟩, trivial, .inl trivial, trivial⟩) (goodS_ghost (A2 := aSc) hg rfl rfl)
  · exact g0 (denQ (jobL j ++ [.int .i64 (n)] ++ devC d ++ [.int .i64 (headAt j n)] ++ secL (gt d.S (headAt j n).toNat) ++ [.int .i64 (s), .int .i64 (e), .int .i64 (max1 e), .int .i64 ((s) - (1))]) rfl [.v (.slice (some ⟨1, 0, none⟩) d.n d.n)] rfl [enc secL d.S] (PL.cons (enc_plain secL_plain _) no_rows)) (dSc d j n s e [] ⟨n, max1 e, s - 1, 0, 0, fun _ => 0⟩ s) ⟨[(.mm true (.int .i64 1) (sv 85), sv 86), (.bin .sub 2 (sv 84) (.int .i64 1), sv 87)], [], []⟩ [(67, [⟨[.agg #[sv 0, sv 1, sv 2, sv 3, sv 4], sv 5], 5, [], [], [], .tuple #[sv 19, .int .i64 0]⟩]), (103, [⟨[.pointer (some ⟨0, 0, none⟩), sv 19], 5, [], [⟨0, 0, true, .row 95 (.lst ([.chan (some 0)] ++ svs 6 13)) true, .row 95 (.lst ([.chan (some 0)] ++ svs 6 13)) true⟩, ⟨1, 1, true, .orow 114 0 true, .orow 114 0 true⟩], [], .tuple #[.agg (svs 20 64).toArray, .int .i64 0]⟩]), (104, [⟨[.agg (svs 20 64).toArray], 6, [], [], [], .tuple #[.agg #[sv 84, sv 85], .int .i64 0]⟩])] ⟨aq (iv (max1 e)) (iv (max1 e)) rfl, aq (.int .i64 ((s) - (1))) (.int .i64 (IntKind.i64.wrap ((s) - (1)))) (wVi64 ((s) - (1)) (by omega) (by omega)), trivial⟩ trivial trivial ⟨oe (head_ctr hj hn), oe hrd, oe ht, trivial⟩ 26 2 ([(0, .row 95 (.lst (ch 0 :: svs 6 13)) true), (1, .orow 114 0 true)]) [pt 0 0, vA 0 5, sv 5] [(0, 0), (1, 1), (2, 2), (3, 3), (4, 4), (6, 5), (7, 6)] hg
theorem scan_bad {d : Dv} (hd : DOK d) {j : Jb} (hj : MayJ j) (hs : sects j = d.n) {n : Int} (hn : 0 ≤ n ∧ n < j.nodes) (hh : headV (gt d.S (headAt j n).toNat) = .tuple #[.agg #[iv 0, iv 0], iv 12]) :
    Ctr Try.prog 61 [pt 0 0, jobV j, iv n] (devH d true) (.tuple #[iv 0, .slice none 0 0, iv 12]) [] := by
  have hb := headAt_bd hj (n := n) ⟨hn.1, by have := hj.n; omega⟩
  have hb2 := recAt_bd hj hn 1
  have hq : headAt j n < sects j := by have hl := hj.l; have := Int.emod_nonneg (1 - 1) (b := j.log) (by omega); unfold recAt at hb2; omega
  have hrd := dread_ctr hd (i := headAt j n) (by omega) (by omega)
  have ht := take_ctr (gt_byte hd (headAt j n).toNat)
  rw [hh] at ht
  exact pth (denQ (jobL j ++ [.int .i64 (n)] ++ devC d ++ [.int .i64 (headAt j n)] ++ secL (gt d.S (headAt j n).toNat)) rfl [.v (.slice (some ⟨1, 0, none⟩) d.n d.n)] rfl [enc secL d.S] (PL.cons (enc_plain secL_plain _) no_rows)) ⟨[], [], []⟩ [(67, [⟨[.agg #[sv 0, sv 1, sv 2, sv 3, sv 4], sv 5], 5, [], [], [], .tuple #[sv 19, .int .i64 0]⟩]), (103, [⟨[.pointer (some ⟨0, 0, none⟩), sv 19], 5, [], [⟨0, 0, true, .row 95 (.lst ([.chan (some 0)] ++ svs 6 13)) true, .row 95 (.lst ([.chan (some 0)] ++ svs 6 13)) true⟩, ⟨1, 1, true, .orow 114 0 true, .orow 114 0 true⟩], [], .tuple #[.agg (svs 20 64).toArray, .int .i64 0]⟩]), (104, [⟨[.agg (svs 20 64).toArray], 6, [], [], [], .tuple #[.agg #[.int .i64 0, .int .i64 0], .int .i64 12]⟩])] trivial trivial trivial ⟨oe (head_ctr hj hn), oe hrd, oe ht, trivial⟩ 2 ([(0, .row 95 (.lst (ch 0 :: svs 6 13)) true), (1, .orow 114 0 true)]) [pt 0 0, vA 0 5, sv 5] []
end Go.Proofs.Ytpennfojidpmeaa
namespace Go.Sx
variable {P : Program}
theorem Ctr.resMono {g : FuncId} {args : List Value} {A B : HL} {res res' : Value} (h : Ctr P g args A res B) (hr : ∀ E v, VR0 E res v → VR0 E res' v) : Ctr P g args A res' B :=
  ⟨h.1, fun w F E args' hh hl Fe n hW => (h.2 w F E args' hh hl Fe n hW).mono fun _ _ ⟨v', E', k1, k2, k3, k4⟩ => ⟨v', E', k1, k2, k3, hr _ _ k4⟩⟩
theorem VR0.weaken {E : Env} {i n c : Nat} {v : Value} (h : VR0 E (mSl i n c 0) v) : VR0 E (mSl i n c 1) v := by
  cases n with
  | zero => cases h; exact @VR.weS den0 E none
  | succ n => exact h
theorem VR0.weaken3 {E : Env} {a b : Value} {i n c : Nat} {v : Value} (h : VR0 E (.tuple #[a, mSl i n c 0, b]) v) : VR0 E (.tuple #[a, mSl i n c 1, b]) v := by
  cases h with
  | tup hf h1 =>
    refine @VR.tup den0 E _ _ hf fun k x y hx hy => ?_
    match k with
    | 0 => exact h1 0 x y hx hy
    | 1 =>
      have : x = mSl i n c 1 := by simpa using hx.symm
      subst this
      exact VR0.weaken (h1 1 (mSl i n c 0) y rfl hy)
    | 2 => exact h1 2 x y hx hy
    | k + 3 => simp at hx
end Go.Sx
namespace Go.Proofs.Ytpennfojidpmeaa
open Go.Sx
set_option maxRecDepth 20000
structure Lo where
  j : Jb
  node : Int
  epoch : Int
  start : Int
  flushed : Int
  L : List Rec
def logC (l : Lo) : List Value := jobL l.j ++ [iv l.node, iv l.epoch, iv l.start, iv l.flushed]
def logRow (l : Lo) (rid : Nat) : List Value := pt 0 0 :: (logC l ++ [mSl rid l.L.length INF 1])
def logA (l : Lo) (rid : Nat) (ro : Bool) : HL := [(2, .row 62 (.lst (logRow l rid)) ro), (rid, rowOr 47 (enc recL l.L) ro)]
section
variable {d : Dv} (hd : DOK d) {j : Jb} (hj : MayJ j) (hs : sects j = d.n) {n : Int} (hn : 0 ≤ n ∧ n < j.nodes)
include hd hj hs hn
theorem read_ok {s e : Int} (hsb : 1 ≤ s ∧ s ≤ 2147483647) (heb : 0 ≤ e ∧ e ≤ 2147483647) (hh : headV (gt d.S (headAt j n).toNat) = .tuple #[.agg #[iv s, iv e], iv 0]) :
    Ctr Try.prog 22 [pt 0 0, jobV j, iv n] (devH d true) (.tuple #[iv s, mSl 2 (scanL d j n j.log.toNat s (max1 e)).length INF 0, iv 0]) [(2, rowOr 47 (enc recL (scanL d j n j.log.toNat s (max1 e))) false)] := by
  have hscan := scan_ok hd hj hs hn hsb heb hh
  have hmay := may_ctr hd hj hs hn
  generalize scanL d j n j.log.toNat s (max1 e) = L at *
  exact pth (denQ (jobL j ++ [.int .i64 (n)] ++ devC d ++ [.int .i64 (s)]) rfl [.v (.slice (some ⟨1, 0, none⟩) d.n d.n), om 3 L.length INF] rfl [enc secL d.S, enc recL L] (PL.cons (enc_plain secL_plain _) (PL.cons (enc_plain recL_plain _) no_rows))) ⟨[], [], []⟩ [(60, [⟨[.pointer (some ⟨0, 0, none⟩), .agg #[sv 0, sv 1, sv 2, sv 3, sv 4], sv 5], 3, [], [⟨0, 0, true, .row 95 (.lst ([.chan (some 0)] ++ svs 6 13)) true, .row 95 (.lst ([.chan (some 0)] ++ svs 6 13)) true⟩, ⟨1, 1, true, .orow 114 0 true, .orow 114 0 true⟩], [], .int .i64 0⟩]), (61, [⟨[.pointer (some ⟨0, 0, none⟩), .agg #[sv 0, sv 1, sv 2, sv 3, sv 4], sv 5], 3, [], [⟨0, 0, true, .row 95 (.lst ([.chan (some 0)] ++ svs 6 13)) true, .row 95 (.lst ([.chan (some 0)] ++ svs 6 13)) true⟩, ⟨1, 1, true, .orow 114 0 true, .orow 114 0 true⟩], [(2, .mrow 47 1 false)], .tuple #[sv 19, .chan (some 1), .int .i64 0]⟩])] trivial trivial trivial ⟨oe hmay, oe hscan, trivial⟩ 2 ([(0, .row 95 (.lst (ch 0 :: svs 6 13)) true), (1, .orow 114 0 true)]) [pt 0 0, vA 0 5, sv 5] [(3, 2)]
theorem read_bad (hh : headV (gt d.S (headAt j n).toNat) = .tuple #[.agg #[iv 0, iv 0], iv 12]) : Ctr Try.prog 22 [pt 0 0, jobV j, iv n] (devH d true) (.tuple #[iv 0, .slice none 0 0, iv 12]) [] := by
  have hscan := scan_bad hd hj hs hn hh
  have hmay := may_ctr hd hj hs hn
  exact pth (denQ (jobL j ++ [.int .i64 (n)] ++ devC d) rfl [.v (.slice (some ⟨1, 0, none⟩) d.n d.n)] rfl [enc secL d.S] (PL.cons (enc_plain secL_plain _) no_rows)) ⟨[], [], []⟩ [(60, [⟨[.pointer (some ⟨0, 0, none⟩), .agg #[sv 0, sv 1, sv 2, sv 3, sv 4], sv 5], 3, [], [⟨0, 0, true, .row 95 (.lst ([.chan (some 0)] ++ svs 6 13)) true, .row 95 (.lst ([.chan (some 0)] ++ svs 6 13)) true⟩, ⟨1, 1, true, .orow 114 0 true, .orow 114 0 true⟩], [], .int .i64 0⟩]), (61, [⟨[.pointer (some ⟨0, 0, none⟩), .agg #[sv 0, sv 1, sv 2, sv 3, sv 4], sv 5], 3, [], [⟨0, 0, true, .row 95 (.lst ([.chan (some 0)] ++ svs 6 13)) true, .row 95 (.lst ([.chan (some 0)] ++ svs 6 13)) true⟩, ⟨1, 1, true, .orow 114 0 true, .orow 114 0 true⟩], [], .tuple #[.int .i64 0, .slice none 0 0, .int .i64 12]⟩])] trivial trivial trivial ⟨oe hmay, oe hscan, trivial⟩ 2 ([(0, .row 95 (.lst (ch 0 :: svs 6 13)) true), (1, .orow 114 0 true)]) [pt 0 0, vA 0 5, sv 5] []
theorem open_ok {s e ep : Int} (hep : 1 ≤ ep ∧ ep ≤ 2147483647) (hsb : 1 ≤ s ∧ s ≤ 2147483647) (heb : 0 ≤ e ∧ e ≤ 2147483647) (hh : headV (gt d.S (headAt j n).toNat) = .tuple #[.agg #[iv s, iv e], iv 0]) :
    Ctr Try.prog 15 [pt 0 0, jobV j, iv n, iv ep] (devH d false) (.tuple #[pt 2 0, iv 0]) (devH d false ++ logA ⟨j, n, ep, s, s + (scanL d j n j.log.toNat s (max1 e)).length - 1, scanL d j n j.log.toNat s (max1 e)⟩ 3 false) := by
  have hscan := (scan_ok hd hj hs hn hsb heb hh).resMono fun E v h => VR0.weaken3 h
  have hmay := may_ctr hd hj hs hn
  have hlen : (scanL d j n j.log.toNat s (max1 e)).length ≤ 64 := by
    have h : ∀ (k : Nat) (m le : Int), (scanL d j n k m le).length ≤ k := by
      intro k
      induction k with
      | zero => intro m le; exact Nat.le_refl _
      | succ k ih =>
        intro m le
        unfold scanL
        split
        · split
          · split
            · rw [List.length_cons]; exact Nat.succ_le_succ (ih _ _)
            · exact Nat.zero_le _
          · exact Nat.zero_le _
        · exact Nat.zero_le _
    have h1 := h j.log.toNat s (max1 e)
    have h2 := hj.l
    omega
  generalize scanL d j n j.log.toNat s (max1 e) = L at *
  exact pth (denQ (jobL j ++ [.int .i64 (n), .int .i64 (ep)] ++ devC d ++ [.int .i64 (s), .int .i64 (L.length), .int .i64 ((s) + (L.length)), .int .i64 (((s) + (L.length)) - (1))]) rfl [.v (.slice (some ⟨1, 0, none⟩) d.n d.n), ow 3 L.length INF] rfl [enc secL d.S, enc recL L] (PL.cons (enc_plain secL_plain _) (PL.cons (enc_plain recL_plain _) no_rows))) ⟨[(.bin .lss 2 (sv 6) (.int .i64 1), .bool false), (.bin .gtr 2 (sv 6) (.int .i64 2147483647), .bool false), (.len 43 (.chan (some 1)), sv 21), (.bin .add 2 (sv 20) (sv 21), sv 22), (.bin .sub 2 (sv 22) (.int .i64 1), sv 23)], [], []⟩ [(60, [⟨[.pointer (some ⟨0, 0, none⟩), .agg #[sv 0, sv 1, sv 2, sv 3, sv 4], sv 5], 3, [], [⟨0, 0, true, .row 95 (.lst ([.chan (some 0)] ++ svs 7 13)) false, .row 95 (.lst ([.chan (some 0)] ++ svs 7 13)) false⟩, ⟨1, 1, true, .orow 114 0 false, .orow 114 0 false⟩], [], .int .i64 0⟩]), (61, [⟨[.pointer (some ⟨0, 0, none⟩), .agg #[sv 0, sv 1, sv 2, sv 3, sv 4], sv 5], 3, [], [⟨0, 0, true, .row 95 (.lst ([.chan (some 0)] ++ svs 7 13)) false, .row 95 (.lst ([.chan (some 0)] ++ svs 7 13)) false⟩, ⟨1, 1, true, .orow 114 0 false, .orow 114 0 false⟩], [(2, .mrow 47 1 false)], .tuple #[sv 20, .chan (some 1), .int .i64 0]⟩])] ⟨qF ((ep) < (1)) (by omega), qF ((ep) > (2147483647)) (by omega), asLen u43 rfl (by kernel_rfl), aq (.int .i64 ((s) + (L.length))) (.int .i64 (IntKind.i64.wrap ((s) + (L.length)))) (wVi64 ((s) + (L.length)) (by omega) (by omega)), aq (.int .i64 (((s) + (L.length)) - (1))) (.int .i64 (IntKind.i64.wrap (((s) + (L.length)) - (1)))) (wVi64 (((s) + (L.length)) - (1)) (by omega) (by omega)), trivial⟩ trivial trivial ⟨oe hmay, oe hscan, trivial⟩ 2 ([(0, .row 95 (.lst (ch 0 :: svs 7 13)) false), (1, .orow 114 0 false)]) [pt 0 0, vA 0 5, sv 5, sv 6] [(0, 0), (1, 1), (4, 2), (3, 3)]
theorem open_bad {ep : Int} (hep : 1 ≤ ep ∧ ep ≤ 2147483647) (hh : headV (gt d.S (headAt j n).toNat) = .tuple #[.agg #[iv 0, iv 0], iv 12]) : Ctr Try.prog 15 [pt 0 0, jobV j, iv n, iv ep] (devH d false) (.tuple #[.pointer none, iv 12]) (devH d false) := by
  have hscan := scan_bad hd hj hs hn hh
  have hmay := may_ctr hd hj hs hn
  exact pth (denQ (jobL j ++ [.int .i64 (n), .int .i64 (ep)] ++ devC d) rfl [.v (.slice (some ⟨1, 0, none⟩) d.n d.n)] rfl [enc secL d.S] (PL.cons (enc_plain secL_plain _) no_rows)) ⟨[(.bin .lss 2 (sv 6) (.int .i64 1), .bool false), (.bin .gtr 2 (sv 6) (.int .i64 2147483647), .bool false)], [], []⟩ [(60, [⟨[.pointer (some ⟨0, 0, none⟩), .agg #[sv 0, sv 1, sv 2, sv 3, sv 4], sv 5], 3, [], [⟨0, 0, true, .row 95 (.lst ([.chan (some 0)] ++ svs 7 13)) false, .row 95 (.lst ([.chan (some 0)] ++ svs 7 13)) false⟩, ⟨1, 1, true, .orow 114 0 false, .orow 114 0 false⟩], [], .int .i64 0⟩]), (61, [⟨[.pointer (some ⟨0, 0, none⟩), .agg #[sv 0, sv 1, sv 2, sv 3, sv 4], sv 5], 3, [], [⟨0, 0, true, .row 95 (.lst ([.chan (some 0)] ++ svs 7 13)) false, .row 95 (.lst ([.chan (some 0)] ++ svs 7 13)) false⟩, ⟨1, 1, true, .orow 114 0 false, .orow 114 0 false⟩], [], .tuple #[.int .i64 0, .slice none 0 0, .int .i64 12]⟩])] ⟨qF ((ep) < (1)) (by omega), qF ((ep) > (2147483647)) (by omega), trivial⟩ trivial trivial ⟨oe hmay, oe hscan, trivial⟩ 2 ([(0, .row 95 (.lst (ch 0 :: svs 7 13)) false), (1, .orow 114 0 false)]) [pt 0 0, vA 0 5, sv 5, sv 6] [(0, 0), (1, 1)]
end
end Go.Proofs.Ytpennfojidpmeaa
namespace Go.Sx
variable {P : Program}
theorem mSl_pos {id n c z : Nat} (h : 1 ≤ n) : mSl id n c z = .slice (some ⟨id, 0, none⟩) n c := by
  cases n with
  | zero => omega
  | succ n => rfl
theorem rowOr_pos {T : TypeId} {l : List Value} {ro : Bool} (h : l ≠ []) : rowOr T l ro = .row T (.lst l) ro := by
  cases l with
  | nil => exact absurd rfl h
  | cons => rfl
end Go.Sx
namespace Go.Proofs.Ytpennfojidpmeaa
open Go.Sx
set_option maxRecDepth 20000
end Go.Proofs.Ytpennfojidpmeaa
namespace Go.Proofs.Ytpennfojidpmeaa
open Go.Sx
set_option maxRecDepth 20000
theorem gt_set {α : Type} [Inhabited α] (S : List α) (i j : Nat) (x : α) (hi : i < S.length) : gt (S.set i x) j = if i = j then x else gt S j := by
  unfold gt
  rw [List.getElem?_set]
  by_cases h : i = j
  · rw [if_pos h, if_pos h, if_pos hi]; rfl
  · rw [if_neg h, if_neg h]
end Go.Proofs.Ytpennfojidpmeaa
namespace Go.Proofs.Ytpennfojidpmeaa
open Go.Sx
set_option maxRecDepth 20000
theorem a5 : aggB Try.prog 5 = some false := by kernel_rfl
theorem asIxaM {d : Den} {t el : TypeId} {n len c a i r b off z : Nat} {fk : FloatKind} {k : IntKind} {q : Int} (hu : Program.underlying Try.prog t = some (.slice el)) (hn : sizeB Try.prog el = some n) (ho : d.o a = mSl b len c z) (h0 : 1 ≤ len) (hv : d.v i = .int k q) (h1 : 0 ≤ q) (h2 : q < len)
    (hr : d.o r = .pointer (some ⟨b, off, none⟩)) (hoff : off = 0 + q.toNat * n) : @AK.Ok d Try.prog (.ixa t (.chan (some a)) (.float fk i)) (.chan (some r)) := asIxa hu hn (ho.trans (mSl_pos h0)) hv h1 h2 hr hoff
end Go.Proofs.Ytpennfojidpmeaa
namespace Go.Proofs.Ytpennfojidpmeaa
open Go.Sx
set_option maxRecDepth 20000
abbrev oa (id n c : Nat) : OV := .m id n c 2
theorem jmayR_f {j : Jb} (hj : ¬ MayJ j) : Ctr Try.prog 23 [jobV j] [] (.bool false) [] := by
  · by_cases h0 : ((j.nodes) : Int) ≥ (2)
    · by_cases h1 : ((j.nodes) : Int) ≤ (8)
      · by_cases h2 : ((j.pages) : Int) ≥ (1)
        · by_cases h3 : ((j.pages) : Int) ≤ (16)
          · by_cases h4 : ((j.frames) : Int) ≥ (1)
            · by_cases h5 : ((j.frames) : Int) ≤ (16)
              · by_cases h6 : ((j.log) : Int) ≥ (2)
                · by_cases h7 : ((j.log) : Int) ≤ (64)
                  · by_cases h8 : ((j.pat) : Int) ≥ (2)
                    · by_cases h9 : ((j.pat) : Int) ≤ (100)
                      · exact absurd (show MayJ j from ⟨⟨by omega, by omega⟩, ⟨by omega, by omega⟩, ⟨by omega, by omega⟩, ⟨by omega, by omega⟩, ⟨by omega, by omega⟩⟩) hj
                      · skip
                        exact pth (denQ (jobL j) (by kernel_rfl) [] rfl [] no_rows) ⟨[(.bin .geq 3 (sv 0) (.int .i64 2), .bool true), (.bin .leq 3 (sv 0) (.int .i64 8), .bool true), (.bin .geq 3 (sv 1) (.int .i64 1), .bool true), (.bin .leq 3 (sv 1) (.int .i64 16), .bool true), (.bin .geq 3 (sv 2) (.int .i64 1), .bool true), (.bin .leq 3 (sv 2) (.int .i64 16), .bool true), (.bin .geq 3 (sv 3) (.int .i64 2), .bool true), (.bin .leq 3 (sv 3) (.int .i64 64), .bool true), (.bin .geq 3 (sv 4) (.int .i64 2), .bool true), (.bin .leq 3 (sv 4) (.int .i64 100), .bool false)], [], []⟩ [] ⟨qT ((j.nodes) ≥ (2)) (by omega), qT ((j.nodes) ≤ (8)) (by omega), qT ((j.pages) ≥ (1)) (by omega), qT ((j.pages) ≤ (16)) (by omega), qT ((j.frames) ≥ (1)) (by omega), qT ((j.frames) ≤ (16)) (by omega), qT ((j.log) ≥ (2)) (by omega), qT ((j.log) ≤ (64)) (by omega), qT ((j.pat) ≥ (2)) (by omega), qF ((j.pat) ≤ (100)) (by omega), trivial⟩ trivial trivial trivial 0 ([]) [vA 0 5] []
                    · skip
                      exact pth (denQ (jobL j) (by kernel_rfl) [] rfl [] no_rows) ⟨[(.bin .geq 3 (sv 0) (.int .i64 2), .bool true), (.bin .leq 3 (sv 0) (.int .i64 8), .bool true), (.bin .geq 3 (sv 1) (.int .i64 1), .bool true), (.bin .leq 3 (sv 1) (.int .i64 16), .bool true), (.bin .geq 3 (sv 2) (.int .i64 1), .bool true), (.bin .leq 3 (sv 2) (.int .i64 16), .bool true), (.bin .geq 3 (sv 3) (.int .i64 2), .bool true), (.bin .leq 3 (sv 3) (.int .i64 64), .bool true), (.bin .geq 3 (sv 4) (.int .i64 2), .bool false)], [], []⟩ [] ⟨qT ((j.nodes) ≥ (2)) (by omega), qT ((j.nodes) ≤ (8)) (by omega), qT ((j.pages) ≥ (1)) (by omega), qT ((j.pages) ≤ (16)) (by omega), qT ((j.frames) ≥ (1)) (by omega), qT ((j.frames) ≤ (16)) (by omega), qT ((j.log) ≥ (2)) (by omega), qT ((j.log) ≤ (64)) (by omega), qF ((j.pat) ≥ (2)) (by omega), trivial⟩ trivial trivial trivial 0 ([]) [vA 0 5] []
                  · skip
                    exact pth (denQ (jobL j) (by kernel_rfl) [] rfl [] no_rows) ⟨[(.bin .geq 3 (sv 0) (.int .i64 2), .bool true), (.bin .leq 3 (sv 0) (.int .i64 8), .bool true), (.bin .geq 3 (sv 1) (.int .i64 1), .bool true), (.bin .leq 3 (sv 1) (.int .i64 16), .bool true), (.bin .geq 3 (sv 2) (.int .i64 1), .bool true), (.bin .leq 3 (sv 2) (.int .i64 16), .bool true), (.bin .geq 3 (sv 3) (.int .i64 2), .bool true), (.bin .leq 3 (sv 3) (.int .i64 64), .bool false)], [], []⟩ [] ⟨qT ((j.nodes) ≥ (2)) (by omega), qT ((j.nodes) ≤ (8)) (by omega), qT ((j.pages) ≥ (1)) (by omega), qT ((j.pages) ≤ (16)) (by omega), qT ((j.frames) ≥ (1)) (by omega), qT ((j.frames) ≤ (16)) (by omega), qT ((j.log) ≥ (2)) (by omega), qF ((j.log) ≤ (64)) (by omega), trivial⟩ trivial trivial trivial 0 ([]) [vA 0 5] []
                · skip
                  exact pth (denQ (jobL j) (by kernel_rfl) [] rfl [] no_rows) ⟨[(.bin .geq 3 (sv 0) (.int .i64 2), .bool true), (.bin .leq 3 (sv 0) (.int .i64 8), .bool true), (.bin .geq 3 (sv 1) (.int .i64 1), .bool true), (.bin .leq 3 (sv 1) (.int .i64 16), .bool true), (.bin .geq 3 (sv 2) (.int .i64 1), .bool true), (.bin .leq 3 (sv 2) (.int .i64 16), .bool true), (.bin .geq 3 (sv 3) (.int .i64 2), .bool false)], [], []⟩ [] ⟨qT ((j.nodes) ≥ (2)) (by omega), qT ((j.nodes) ≤ (8)) (by omega), qT ((j.pages) ≥ (1)) (by omega), qT ((j.pages) ≤ (16)) (by omega), qT ((j.frames) ≥ (1)) (by omega), qT ((j.frames) ≤ (16)) (by omega), qF ((j.log) ≥ (2)) (by omega), trivial⟩ trivial trivial trivial 0 ([]) [vA 0 5] []
              · skip
                exact pth (denQ (jobL j) (by kernel_rfl) [] rfl [] no_rows) ⟨[(.bin .geq 3 (sv 0) (.int .i64 2), .bool true), (.bin .leq 3 (sv 0) (.int .i64 8), .bool true), (.bin .geq 3 (sv 1) (.int .i64 1), .bool true), (.bin .leq 3 (sv 1) (.int .i64 16), .bool true), (.bin .geq 3 (sv 2) (.int .i64 1), .bool true), (.bin .leq 3 (sv 2) (.int .i64 16), .bool false)], [], []⟩ [] ⟨qT ((j.nodes) ≥ (2)) (by omega), qT ((j.nodes) ≤ (8)) (by omega), qT ((j.pages) ≥ (1)) (by omega), qT ((j.pages) ≤ (16)) (by omega), qT ((j.frames) ≥ (1)) (by omega), qF ((j.frames) ≤ (16)) (by omega), trivial⟩ trivial trivial trivial 0 ([]) [vA 0 5] []
            · skip
              exact pth (denQ (jobL j) (by kernel_rfl) [] rfl [] no_rows) ⟨[(.bin .geq 3 (sv 0) (.int .i64 2), .bool true), (.bin .leq 3 (sv 0) (.int .i64 8), .bool true), (.bin .geq 3 (sv 1) (.int .i64 1), .bool true), (.bin .leq 3 (sv 1) (.int .i64 16), .bool true), (.bin .geq 3 (sv 2) (.int .i64 1), .bool false)], [], []⟩ [] ⟨qT ((j.nodes) ≥ (2)) (by omega), qT ((j.nodes) ≤ (8)) (by omega), qT ((j.pages) ≥ (1)) (by omega), qT ((j.pages) ≤ (16)) (by omega), qF ((j.frames) ≥ (1)) (by omega), trivial⟩ trivial trivial trivial 0 ([]) [vA 0 5] []
          · skip
            exact pth (denQ (jobL j) (by kernel_rfl) [] rfl [] no_rows) ⟨[(.bin .geq 3 (sv 0) (.int .i64 2), .bool true), (.bin .leq 3 (sv 0) (.int .i64 8), .bool true), (.bin .geq 3 (sv 1) (.int .i64 1), .bool true), (.bin .leq 3 (sv 1) (.int .i64 16), .bool false)], [], []⟩ [] ⟨qT ((j.nodes) ≥ (2)) (by omega), qT ((j.nodes) ≤ (8)) (by omega), qT ((j.pages) ≥ (1)) (by omega), qF ((j.pages) ≤ (16)) (by omega), trivial⟩ trivial trivial trivial 0 ([]) [vA 0 5] []
        · skip
          exact pth (denQ (jobL j) (by kernel_rfl) [] rfl [] no_rows) ⟨[(.bin .geq 3 (sv 0) (.int .i64 2), .bool true), (.bin .leq 3 (sv 0) (.int .i64 8), .bool true), (.bin .geq 3 (sv 1) (.int .i64 1), .bool false)], [], []⟩ [] ⟨qT ((j.nodes) ≥ (2)) (by omega), qT ((j.nodes) ≤ (8)) (by omega), qF ((j.pages) ≥ (1)) (by omega), trivial⟩ trivial trivial trivial 0 ([]) [vA 0 5] []
      · skip
        exact pth (denQ (jobL j) (by kernel_rfl) [] rfl [] no_rows) ⟨[(.bin .geq 3 (sv 0) (.int .i64 2), .bool true), (.bin .leq 3 (sv 0) (.int .i64 8), .bool false)], [], []⟩ [] ⟨qT ((j.nodes) ≥ (2)) (by omega), qF ((j.nodes) ≤ (8)) (by omega), trivial⟩ trivial trivial trivial 0 ([]) [vA 0 5] []
    · skip
      exact pth (denQ (jobL j) (by kernel_rfl) [] rfl [] no_rows) ⟨[(.bin .geq 3 (sv 0) (.int .i64 2), .bool false)], [], []⟩ [] ⟨qF ((j.nodes) ≥ (2)) (by omega), trivial⟩ trivial trivial trivial 0 ([]) [vA 0 5] []
end Go.Proofs.Ytpennfojidpmeaa
namespace Go.Proofs.Ytpennfojidpmeaa
open Go.Sx
set_option maxRecDepth 20000
theorem eqR_refl (r : Rec) : eqR r r = true := by
  unfold eqR
  simp only [beq_self_eq_true, Bool.true_and, Bool.and_true]
  exact eqN_of fun _ _ _ => rfl
end Go.Proofs.Ytpennfojidpmeaa
namespace Go.Proofs.Ytpennfojidpmeaa
open Go.Sx Go.Deep Go.WideShapes
set_option maxRecDepth 20000
theorem fit_cap (e : EI) {cap : Nat} (h : e.cap = cap) : capOf e (if cap < HALF then cap else INF) = cap := by
  unfold capOf
  by_cases hc : cap < HALF
  · rw [if_pos hc, if_pos hc]
  · rw [if_neg hc, if_neg (by decide +kernel), Nat.sub_self, Nat.sub_zero]; exact h
theorem add_none {a : Addr} (h : a.spot = none) (n : Nat) : a.add n = ⟨a.block, a.off + n, none⟩ := by
  unfold Addr.add
  by_cases h0 : n = 0
  · rw [if_pos h0]; subst h0; cases a; simp only at h; subst h; rfl
  · rw [if_neg h0]
theorem cell_at {w : World} {a : Addr} {v : Value} (h : w.cell? a = some v) : a.spot = none ∧ ∃ cells T fz, w.heap[a.block]? = some (.cells cells T fz) ∧ cells[a.off]? = some v := by
  unfold World.cell? at h
  split at h
  · rename_i c T fz hc
    split at h
    · cases h
    · rename_i hs
      refine ⟨?_, c, T, fz, hc, h⟩
      cases ha : a.spot with
      | none => rfl
      | some x => rw [ha] at hs; exact absurd rfl hs
  · cases h
theorem wf_u8 {n : Int} (h : (Lit.int .u8 n).wf = true) : 0 ≤ n ∧ n < 256 := by
  simp [Lit.wf, IntKind.min, IntKind.max, IntKind.signed, IntKind.bits] at h
  omega
section
variable {H : Type} {en : TypeId × Value → H} {W : World} {base : Nat} {sp : Nat → Bool} {hd : Bool} {fuel : Nat} {cs : List Value} {x : DataW H × List MemPlace}
theorem job_of (h : DataW.trod en Try.prog W base sp hd fuel 24 cs = some x) : ∃ j : Jb, cs = jobL j := by
  obtain ⟨ys, n, _, _, hlen, hyl, hf⟩ := DataW.trod_struct Try.underlying24 h
  have hlen : cs.length = 5 := hlen.trans (by kernel_rfl)
  have hyl : ys.length = 5 := hyl
  match cs, hlen with
  | [c0, c1, c2, c3, c4], _ =>
    obtain ⟨k0, e0, _⟩ := DataW.trod_int Try.underlying3 ((hf 0 _ rfl).trans (List.getElem?_eq_getElem (by omega)))
    obtain ⟨k1, e1, _⟩ := DataW.trod_int Try.underlying3 ((hf 1 _ rfl).trans (List.getElem?_eq_getElem (by omega)))
    obtain ⟨k2, e2, _⟩ := DataW.trod_int Try.underlying3 ((hf 2 _ rfl).trans (List.getElem?_eq_getElem (by omega)))
    obtain ⟨k3, e3, _⟩ := DataW.trod_int Try.underlying3 ((hf 3 _ rfl).trans (List.getElem?_eq_getElem (by omega)))
    obtain ⟨k4, e4, _⟩ := DataW.trod_int Try.underlying3 ((hf 4 _ rfl).trans (List.getElem?_eq_getElem (by omega)))
    have f0 : [c0] = [.int .i64 k0] := e0
    have f1 : [c1] = [.int .i64 k1] := e1
    have f2 : [c2] = [.int .i64 k2] := e2
    have f3 : [c3] = [.int .i64 k3] := e3
    have f4 : [c4] = [.int .i64 k4] := e4
    simp only [List.cons.injEq, and_true] at f0 f1 f2 f3 f4
    subst f0 f1 f2 f3 f4
    exact ⟨⟨k0, k1, k2, k3, k4⟩, rfl⟩
end
end Go.Proofs.Ytpennfojidpmeaa

import Derived.Test.YtpennfojidpmeaaQj
import Derived.Test.YtpennfojidpmeaaRows
import Derived.ProofKit
import Derived.OpenShut
import Derived.Deep.Slices
import Derived.ChangeSame
import Derived.WideKeyArgs
namespace Go.Sx
variable {P : Program}
theorem mSl_pos {id n c z : Nat} (h : 1 ≤ n) : mSl id n c z = .slice (some ⟨id, 0, none⟩) n c := by
  cases n with
  | zero => omega
  | succ n => rfl
theorem rowOr_pos {T : TypeId} {l : List Value} {ro : Bool} (h : l ≠ []) : rowOr T l ro = .row T (.lst l) ro := by
  cases l with
  | nil => exact absurd rfl h
  | cons => rfl
theorem asSliP {d : Den} {t el : TypeId} {size n id a i r : Nat} {fk : FloatKind} {q : Int} (hu : P.underlying t = some (.slice el)) (hs : sizeB P el = some size) (ho : d.o a = .slice (some ⟨id, 0, none⟩) n INF) (hv : d.v i = .int .i64 q) (h1 : 0 ≤ q) (h2 : q ≤ n) (h3 : n ≤ 1000000)
    (hr : d.o r = .slice (some ⟨id, q.toNat * size, none⟩) (n - q.toNat) (INF - q.toNat)) : @AK.Ok d P (.sli t (.chan (some a)) (some (.float fk i)) none none) (.chan (some r)) := by
  refine asm_sli ?_
  show sliceA P t (d.o a) (some (d.v i)) none none = some (d.o r)
  rw [ho, hv, hr]
  unfold sliceA
  simp only [hu, hs, boundA]
  have hk : knownCap INF = false := by decide
  have h4 : decide (0 ≤ q ∧ q ≤ (n : Int)) = true := decide_eq_true ⟨h1, h2⟩
  have hb : (Nat.ble (HALF + q.toNat) INF && Nat.ble INF INF) = true := by
    simp only [Bool.and_eq_true, Nat.ble_eq]
    unfold HALF INF
    omega
  simp only [hk, h4, cond_false, cond_true, Option.isSome_none, Bool.false_and, Bool.or_false, hb]
  simp [Addr.add]
  exact fun h => h.symm
theorem asSliW {d : Den} {t el : TypeId} {size i : Nat} {fk : FloatKind} {q : Int} (hu : P.underlying t = some (.slice el)) (hs : sizeB P el = some size) (h : q = 0) (hv : d.v i = .int .i64 q := by rfl) : @AK.Ok d P (.sli t (.slice none 0 1) (some (.float fk i)) none none) (.slice none 0 1) := by
  subst h
  refine asm_sli ?_
  show sliceA P t (.slice none 0 1) (some (d.v i)) none none = some (.slice none 0 1)
  rw [hv]
  unfold sliceA
  simp only [hu, hs, boundA]
  simp
  rfl
theorem ghost_hr {w0 : World} {F : Nat → Prop} {E : Env} {B : HL} {w : World} (hr : HR0 P w0 F E (ofL B) w) (b : Nat) (hb : lkL B b = none) (T : TypeId) (ro : Bool) : HR0 P w0 F E (ofL (B ++ [(b, rowOr T [] ro)])) w := @ghostD P den0 _ _ _ _ _ hr b hb T 0 ro rfl
theorem ctr_ghost {g : FuncId} {args : List Value} {A : HL} {res : Value} {B : HL} (h : Ctr P g args A res B) (b : Nat) (T : TypeId) (ro : Bool) (hb : lkL B b = none) (hA : lkL A b = none) : Ctr P g args A res (B ++ [(b, rowOr T [] ro)]) := by
  refine ⟨h.1, fun w F E args' hr hl Fe n hW => (h.2 w F E args' hr hl Fe n hW).mono fun e w' ⟨v', E', k1, k2, k3, k4⟩ => ⟨v', E', k1, fun i x hi hbi => ?_, ghost_hr k3 b hb T ro, k4⟩⟩
  refine k2 i x hi ?_
  rw [lkL_app] at hbi
  cases hx : lkL B i with
  | some o => rfl
  | none =>
    rw [hx] at hbi
    simp only [lkL] at hbi
    cases hb2 : Nat.beq b i with
    | true =>
      have := beq_iff.1 hb2; subst this
      have := @HR.dom den0 _ _ _ _ _ _ hr b x hi
      rw [get_ofL, hA] at this
      exact absurd rfl this
    | false => rw [hb2] at hbi; cases hbi
end Go.Sx
namespace Go.Proofs.Ytpennfojidpmeaa
open Go.Sx
set_option maxRecDepth 20000
theorem ldE2 {α : Type} [Inhabited α] {f : α → List Value} {n : Nat} (hf : ∀ a, (f a).length = n) {d : Den} {t kk id j : Nat} {vs : List Value} {S : List α} {k i : Nat} (ha : aggB Try.prog t = some true) (hs : sizeB Try.prog t = some n) (hi : k + i < S.length) (ho : d.o kk = .pointer (some ⟨id, k * n + i * n, none⟩)) (hj : d.row j = enc f S) (hcv : mapO (@cv d [] 5) vs = some (f (gt S (k + i)))) : @LdE.Ok d Try.prog ⟨t, kk, id, j, .agg vs.toArray⟩ :=
  ldE hf ha hs hi (ho.trans (by rw [Nat.zero_add, Nat.add_mul])) hj hcv
def stop (d : Dv) : Bool := d.cut && d.left == 0
def write1 (d : Dv) (p : Int) (s : Sec) : Dv := ⟨d.n, if stop d then d.S else d.S.set p.toNat s, d.e, d.nd, d.cut, if d.cut && !(stop d) then d.left - 1 else d.left, if stop d then true else d.lost, if stop d then d.done else d.done + 1⟩
def write2 (d : Dv) (p : Int) (a b : Sec) : Dv := write1 (write1 d p a) (p + 1) b
def LeftOK (d : Dv) : Prop := d.cut = true → 0 ≤ d.left ∧ d.left ≤ 1000000
theorem dwrite1_ok {d : Dv} (hd : DOK d) {n ep p : Int} (hn : 0 ≤ n ∧ n < d.nd) (hp : 0 ≤ p ∧ p + 1 ≤ d.n) (he : ep = d.e n.toNat) (hl : LeftOK d) (a : Sec) : Ctr Try.prog 65 [pt 0 0, iv n, iv ep, iv p, .slice (some ⟨2, 0, none⟩) 1 1] (devH d false ++ [(2, .row 114 (.lst (secL a)) true)]) (iv 0) (devH (write1 d p a) false) := by
  by_cases hc : d.cut = true
  · have ⟨h1, h2⟩ := hl hc
    by_cases h0 : d.left = 0
    · rw [show write1 d p a = { d with lost := true } from by simp [write1, stop, hc, h0]]
      exact dwrite1B hd hn hp hc h0 he a
    · rw [show write1 d p a = { d with S := d.S.set (p + 0).toNat a, left := d.left - 1, done := d.done + 1 } from by simp [write1, stop, hc, h0]]
      exact dwrite1D hd hn hp hc ⟨by omega, h2⟩ he a
  · rw [show write1 d p a = { d with S := d.S.set (p + 0).toNat a, done := d.done + 1 } from by simp [write1, stop, hc]]
    exact dwrite1A hd hn hp (by simpa using hc) he a
theorem dwrite2_ok {d : Dv} (hd : DOK d) {n ep p : Int} (hn : 0 ≤ n ∧ n < d.nd) (hp : 0 ≤ p ∧ p + 2 ≤ d.n) (he : ep = d.e n.toNat) (hl : LeftOK d) (a b : Sec) : Ctr Try.prog 65 [pt 0 0, iv n, iv ep, iv p, .slice (some ⟨2, 0, none⟩) 2 2] (devH d false ++ [(2, .row 125 (.lst (secL a ++ secL b)) true)]) (iv 0) (devH (write2 d p a b) false) := by
  by_cases hc : d.cut = true
  · have ⟨h1, h2⟩ := hl hc
    by_cases h0 : d.left = 0
    · rw [show write2 d p a b = { d with lost := true } from by simp [write2, write1, stop, hc, h0]]
      exact dwrite2B hd hn hp hc h0 he a b
    · by_cases h3 : d.left = 1
      · rw [show write2 d p a b = { d with S := d.S.set (p + 0).toNat a, left := d.left - 1, lost := true, done := d.done + 1 } from by simp [write2, write1, stop, hc, h3]]
        exact dwrite2C hd hn hp hc h3 he a b
      · have h4 : ¬ d.left - 1 = 0 := by omega
        rw [show write2 d p a b = { d with S := (d.S.set (p + 0).toNat a).set (p + 1).toNat b, left := d.left - 1 - 1, done := d.done + 1 + 1 } from by simp [write2, write1, stop, hc, h0, h4]]
        exact dwrite2D hd hn hp hc ⟨by omega, h2⟩ he a b
  · rw [show write2 d p a b = { d with S := (d.S.set (p + 0).toNat a).set (p + 1).toNat b, done := d.done + 1 + 1 } from by simp [write2, write1, stop, hc]]
    exact dwrite2A hd hn hp (by simpa using hc) he a b
theorem write1_ok {d : Dv} (hd : DOK d) (hl : LeftOK d) (p : Int) {s : Sec} (hs : Byte s) (hx : d.done ≤ 999999999) : DOK (write1 d p s) ∧ LeftOK (write1 d p s) ∧ (write1 d p s).done ≤ d.done + 1 := by
  have hb : ∀ x ∈ d.S.set p.toNat s, Byte x := fun x hx => by
    rcases List.mem_or_eq_of_mem_set hx with h | h
    · exact hd.by' x h
    · rw [h]; exact hs
  have ⟨g1, g2⟩ := hd.dn
  refine ⟨⟨?_, hd.nb, hd.nd, hd.ep, ?_, ?_⟩, ?_, ?_⟩
  · show (if stop d then d.S else d.S.set p.toNat s).length = d.n
    split
    · exact hd.len
    · rw [List.length_set]; exact hd.len
  · show 0 ≤ (if stop d then d.done else d.done + 1) ∧ (if stop d then d.done else d.done + 1) ≤ _
    split <;> omega
  · show ∀ x ∈ (if stop d then d.S else d.S.set p.toNat s), Byte x
    split
    · exact hd.by'
    · exact hb
  · intro hc
    have hc : d.cut = true := hc
    have ⟨h1, h2⟩ := hl hc
    show 0 ≤ (if d.cut && !(stop d) then d.left - 1 else d.left) ∧ (if d.cut && !(stop d) then d.left - 1 else d.left) ≤ _
    split
    · rename_i h
      simp [stop, hc] at h
      omega
    · exact ⟨h1, h2⟩
  · show (if stop d then d.done else d.done + 1) ≤ _
    split <;> omega
theorem write2_ok {d : Dv} (hd : DOK d) (hl : LeftOK d) (p : Int) {a b : Sec} (ha : Byte a) (hb : Byte b) (hx : d.done ≤ 999999998) : DOK (write2 d p a b) ∧ LeftOK (write2 d p a b) ∧ (write2 d p a b).done ≤ d.done + 2 := by
  obtain ⟨a1, a2, a3⟩ := write1_ok hd hl p ha (by omega)
  obtain ⟨b1, b2, b3⟩ := write1_ok a1 a2 (p + 1) hb (by omega)
  exact ⟨b1, b2, by unfold write2; omega⟩
theorem half_byte {r : Rec} (hb : Byte r.body) {h : Nat} (hh : h ≤ 1) : Byte (half r h) := by
  intro i
  unfold half
  have := hb (48 * h + (i - 14))
  repeat' split
  all_goals omega
theorem headS_byte (s e : Int) : Byte (headS s e) := by
  intro i
  unfold headS
  repeat' split
  all_goals omega
theorem cloneR_empN {n o cp : Nat} (hn : n = 0) : Ctr Try.prog 68 [.slice (some ⟨1, o, none⟩) n cp] [(1, .dead)] (.slice none 0 1) [(1, .dead)] := by subst hn; exact Ctr.addDead cloneR_emp 1 rfl
def kF (l : Lo) : Nat := (l.flushed - l.start + 1).toNat
def flushD (l : Lo) : List Rec → Dv → Dv
  | [], d => d
  | r :: rs, d => flushD l rs (write2 d (recAt l.j l.node r.lsn) (half r 0) (half r 1))
def logP (l : Lo) (rid : Nat) (ro : Bool) : HL := [(2, .row 62 (.lst (pt 0 0 :: (logC l ++ [.slice (some ⟨rid, 0, none⟩) l.L.length INF]))) ro), (rid, .row 47 (.lst (enc recL l.L)) ro)]
theorem enc_ne {L : List Rec} (h : 1 ≤ L.length) : enc recL L ≠ [] := by
  cases L with
  | nil => simp at h
  | cons a L => intro h; cases h
theorem logA_pos {l : Lo} {rid : Nat} {ro : Bool} (h : 1 ≤ l.L.length) : logA l rid ro = logP l rid ro := by
  unfold logA logP logRow
  rw [mSl_pos h, rowOr_pos (enc_ne h)]
noncomputable abbrev dFl (d : Dv) (l : Lo) (i : Nat) (fl : Int) : Den := denQ (devC d ++ logC { l with flushed := fl } ++ [iv ((l.L.length - kF l : Nat) : Int), iv (i : Int)]) rfl [.v (.slice (some ⟨1, 0, none⟩) d.n d.n), .v (.slice (some ⟨3, 0, none⟩) l.L.length INF), .v (.slice (some ⟨3, kF l * 101, none⟩) (l.L.length - kF l) (INF - kF l))] rfl [enc secL d.S, enc recL l.L] (PL.cons (enc_plain secL_plain _) (PL.cons (enc_plain recL_plain _) no_rows))
noncomputable def xFl : Cfg := headC (hd 17 0) .normal [(0, pt 2 0), (26, ch 2), (27, sv 22), (28, sv 23)] 73 4 [(0, .row 95 (.lst (ch 0 :: svs 0 13)) false), (1, .orow 114 0 false), (2, .row 62 (.lst (pt 0 0 :: (svs 13 9 ++ [ch 1]))) false), (3, .orow 47 1 false)]
abbrev GFl (A : HL) (d : Dv) (l : Lo) (i : Nat) (fl : Int) (res : Value) (B : HL) : Prop := GoodS (dFl d l i fl) Try.prog 17 A res B [0, 1, 2, 3] xFl
section
variable {l : Lo} {d : Dv} {i : Nat} {fl : Int} {d0 : Dv} {l0 : Lo}
theorem fl_end (h : l.L.length - kF l ≤ i) : GFl (devH d0 false ++ logP l0 3 false) d l i fl (iv 0) (devH d false ++ logP { l with flushed := fl } 3 false) := by
  · exact gF (denQ (devC d ++ logC { l with flushed := fl } ++ [.int .i64 (((l.L.length - kF l : Nat) : Int)), .int .i64 ((i : Int))]) rfl [.v (.slice (some ⟨1, 0, none⟩) d.n d.n), .v (.slice (some ⟨3, 0, none⟩) l.L.length INF), .v (.slice (some ⟨3, kF l * 101, none⟩) (l.L.length - kF l) (INF - kF l))] rfl [enc secL d.S, enc recL l.L] (PL.cons (enc_plain secL_plain _) (PL.cons (enc_plain recL_plain _) no_rows))) ⟨[(.bin .lss 3 (sv 23) (sv 22), .bool false)], [], []⟩ [] ⟨qF (((i : Int)) < (((l.L.length - kF l : Nat) : Int))) (by omega), trivial⟩ trivial trivial trivial 10 [(0, 0), (1, 1), (2, 2), (3, 3)]
theorem fl_ok (hk : kF l + i < l.L.length) (hL : l.L.length ≤ 64) (hm : May (gt l.L (kF l + i))) (hra : Ctr Try.prog 64 [jobV l.j, iv l.node, iv (gt l.L (kF l + i)).lsn] [] (.tuple #[iv (recAt l.j l.node (gt l.L (kF l + i)).lsn), iv 0]) [])
    (hw : Ctr Try.prog 65 [pt 0 0, iv l.node, iv l.epoch, iv (recAt l.j l.node (gt l.L (kF l + i)).lsn), .slice (some ⟨2, 0, none⟩) 2 2] (devH d false ++ [(2, .row 125 (.lst (secL (half (gt l.L (kF l + i)) 0) ++ secL (half (gt l.L (kF l + i)) 1))) true)]) (iv 0) (devH (write2 d (recAt l.j l.node (gt l.L (kF l + i)).lsn) (half (gt l.L (kF l + i)) 0) (half (gt l.L (kF l + i)) 1)) false)) {res : Value} {B : HL}
    (hg : GFl (devH d0 false ++ logP l0 3 false) (write2 d (recAt l.j l.node (gt l.L (kF l + i)).lsn) (half (gt l.L (kF l + i)) 0) (half (gt l.L (kF l + i)) 1)) l (i + 1) (gt l.L (kF l + i)).lsn res B) : GFl (devH d0 false ++ logP l0 3 false) d l i fl res B := by
  · exact gS (denQ (devC d ++ logC { l with flushed := fl } ++ [.int .i64 (((l.L.length - kF l : Nat) : Int)), .int .i64 ((i : Int))] ++ recL (gt l.L (kF l + (((i : Int)) : Int).toNat)) ++ secL (half (gt l.L (kF l + i)) 0) ++ secL (half (gt l.L (kF l + i)) 1) ++ [.int .i64 (recAt l.j l.node (gt l.L (kF l + i)).lsn)] ++ devC (write2 d (recAt l.j l.node (gt l.L (kF l + i)).lsn) (half (gt l.L (kF l + i)) 0) (half (gt l.L (kF l + i)) 1)) ++ [.int .i64 (((i : Int)) + (1))]) rfl [.v (.slice (some ⟨1, 0, none⟩) d.n d.n), .v (.slice (some ⟨3, 0, none⟩) l.L.length INF), .v (.slice (some ⟨3, kF l * 101, none⟩) (l.L.length - kF l) (INF - kF l)), .v (.pointer (some ⟨3, kF l * 101 + (((i : Int)) : Int).toNat * 101, none⟩))] rfl [enc secL d.S, enc recL l.L, enc secL (write2 d (recAt l.j l.node (gt l.L (kF l + i)).lsn) (half (gt l.L (kF l + i)) 0) (half (gt l.L (kF l + i)) 1)).S] (PL.cons (enc_plain secL_plain _) (PL.cons (enc_plain recL_plain _) (PL.cons (enc_plain secL_plain _) no_rows)))) (dFl (write2 d (recAt l.j l.node (gt l.L (kF l + i)).lsn) (half (gt l.L (kF l + i)) 0) (half (gt l.L (kF l + i)) 1)) l (i + 1) (gt l.L (kF l + i)).lsn) ⟨[(.bin .lss 3 (sv 23) (sv 22), .bool true), (.ixa 43 (.chan (some 2)) (sv 23), .chan (some 3)), (.bin .add 3 (sv 23) (.int .i64 1), sv 267)], [⟨47, 3, 3, 1, vA 24 101⟩], []⟩ [(63, [⟨[.agg (svs 24 101).toArray], 5, [], [], [], .tuple #[.agg (svs 125 128).toArray, .int .i64 0]⟩]), (64, [⟨[.agg #[sv 13, sv 14, sv 15, sv 16, sv 17], sv 18, sv 26], 6, [], [], [], .tuple #[sv 253, .int .i64 0]⟩]), (65, [⟨[.pointer (some ⟨0, 0, none⟩), sv 18, sv 19, sv 253, .slice (some ⟨5, 0, none⟩) 2 2], 6, [], [⟨0, 0, false, .row 95 (.lst ([.chan (some 0)] ++ svs 0 13)) false, .row 95 (.lst ([.chan (some 0)] ++ svs 254 13)) false⟩, ⟨1, 1, false, .orow 114 0 false, .orow 114 2 false⟩, ⟨5, 2, true, .row 125 (.lst (svs 125 128)) false, .row 125 (.lst (svs 125 128)) false⟩], [], .int .i64 0⟩])] ⟨qT (((i : Int)) < (((l.L.length - kF l : Nat) : Int))) (by omega), asIxa u43 z47 rfl rfl (by omega) (by omega) rfl rfl, aq (.int .i64 (((i : Int)) + (1))) (.int .i64 (IntKind.i64.wrap (((i : Int)) + (1)))) (wVi64 (((i : Int)) + (1)) (by omega) (by omega)), trivial⟩ ⟨ldE2 recL_len a47 z47 (k := kF l) (i := (((i : Int)) : Int).toNat) (by omega) rfl rfl (by kernel_rfl), trivial⟩ trivial ⟨oe (put_ctr hm), oe hra, oe hw, trivial⟩ 20 [(0, 0), (1, 1), (2, 2), (3, 3)] hg
end
theorem fl_all {l : Lo} (hl : LOK l) {d0 : Dv} {l0 : Lo} : ∀ (k i : Nat) (d : Dv) (fl : Int), kF l + i + k = l.L.length → fl = l.flushed + i → DOK d → LeftOK d → d.done + 2 * k ≤ 900000000 → sects l.j = d.n → l.node < d.nd → (0 < k → l.epoch = d.e l.node.toNat) →
    GFl (devH d0 false ++ logP l0 3 false) d l i fl (iv 0) (devH (flushD l (l.L.drop (kF l + i)) d) false ++ logP { l with flushed := l.start + l.L.length - 1 } 3 false)
  | 0, i, d, fl, hi, hf, hd, hlo, hdn, hs, hnd, he => by
    have hfl := hl.fl
    have hL := hl.ln
    have h64 := hl.j.l
    rw [List.drop_eq_nil_of_le (by omega)]
    have : fl = l.start + l.L.length - 1 := by unfold kF at hi; omega
    rw [← this]
    exact fl_end (by omega)
  | k + 1, i, d, fl, hi, hf, hd, hlo, hdn, hs, hnd, he => by
    have hfl := hl.fl
    have hL := hl.ln
    have h64 := hl.j.l
    have hlt : kF l + i < l.L.length := by omega
    have hget : l.L[kF l + i]? = some l.L[kF l + i] := by simp [hlt]
    have hmem : gt l.L (kF l + i) ∈ l.L := by unfold gt; rw [hget]; exact List.getElem_mem hlt
    have hm := hl.may _ hmem
    have hb := hl.by' _ hmem
    have hls := hl.lsn (kF l + i) hlt
    have hst := hl.st
    have hnn := hl.j.n
    have hra := record_ctr hl.j hl.nd (k := (gt l.L (kF l + i)).lsn) hm.l
    have hbd := recAt_bd hl.j hl.nd (gt l.L (kF l + i)).lsn
    have hw := dwrite2_ok hd (n := l.node) (ep := l.epoch) (p := recAt l.j l.node (gt l.L (kF l + i)).lsn) ⟨hl.nd.1, hnd⟩ (by omega) (he (Nat.succ_pos _)) hlo (half (gt l.L (kF l + i)) 0) (half (gt l.L (kF l + i)) 1)
    obtain ⟨w1, w2, w3⟩ := write2_ok hd hlo (recAt l.j l.node (gt l.L (kF l + i)).lsn) (half_byte hb (h := 0) (by decide)) (half_byte hb (h := 1) (by decide)) (by omega)
    rw [List.drop_eq_getElem_cons hlt]
    have e : l.L[kF l + i] = gt l.L (kF l + i) := by unfold gt; rw [hget]; rfl
    rw [e]
    refine fl_ok hlt (by omega) hm hra hw ?_
    exact fl_all hl k (i + 1) _ _ (by omega) (by rw [hls]; unfold kF; omega) w1 w2 (by omega) hs hnd (fun _ => he (Nat.succ_pos _))
section
variable {l : Lo} (hl : LOK l) {d : Dv} (hd : DOK d)
include hl hd
omit hd in
theorem fl_start {res : Value} {B : HL} (hg : GFl (devH d false ++ logP l 3 false) d l 0 l.flushed res B) : Ctr Try.prog 17 [pt 2 0] (devH d false ++ logP l 3 false) res B := by
  have hj := hl.j
  have ⟨d1, d2⟩ := hj.l
  have ⟨n1, n2⟩ := hj.n
  have ⟨p1, p2⟩ := hj.p
  have ⟨t1, t2⟩ := hl.st
  have ⟨f1, f2⟩ := hl.fl
  have ⟨l1, l2⟩ := hl.ln
  have ⟨e1, e2⟩ := hl.ep
  have ⟨q1, q2⟩ := hl.nd
  have hkf : kF l ≤ l.L.length := by unfold kF; omega
  · exact g0 (denQ (devC d ++ logC l ++ [.int .i64 ((l.flushed) - (l.start)), .int .i64 (((l.flushed) - (l.start)) + (1)), .int .i64 (((l.L.length - kF l : Nat) : Int))]) rfl [.v (.slice (some ⟨1, 0, none⟩) d.n d.n), .v (.slice (some ⟨3, 0, none⟩) l.L.length INF), .v (.slice (some ⟨3, kF l * 101, none⟩) (l.L.length - kF l) (INF - kF l))] rfl [enc secL d.S, enc recL l.L] (PL.cons (enc_plain secL_plain _) (PL.cons (enc_plain recL_plain _) no_rows))) (dFl d l 0 l.flushed) ⟨[(.bin .sub 2 (sv 21) (sv 20), sv 22), (.bin .add 2 (sv 22) (.int .i64 1), sv 23), (.sli 43 (.chan (some 1)) (some (sv 23)) none none, .chan (some 2)), (.len 43 (.chan (some 2)), sv 24)], [], []⟩ [] ⟨aq (.int .i64 ((l.flushed) - (l.start))) (.int .i64 (IntKind.i64.wrap ((l.flushed) - (l.start)))) (wVi64 ((l.flushed) - (l.start)) (by omega) (by omega)), aq (.int .i64 (((l.flushed) - (l.start)) + (1))) (.int .i64 (IntKind.i64.wrap (((l.flushed) - (l.start)) + (1)))) (wVi64 (((l.flushed) - (l.start)) + (1)) (by omega) (by omega)), asSliP u43 z47 rfl rfl (by omega) (by omega) (by omega) rfl, asLen u43 rfl (by kernel_rfl), trivial⟩ trivial trivial trivial 11 4 ([(0, .row 95 (.lst (ch 0 :: svs 0 13)) false), (1, .orow 114 0 false)] ++ [(2, .row 62 (.lst (pt 0 0 :: (svs 13 9 ++ [ch 1]))) false), (3, .orow 47 1 false)]) [pt 2 0] [(0, 0), (1, 1), (2, 2), (3, 3)] hg
theorem flush_ok (hlo : LeftOK d) (hdn : d.done ≤ 800000000) (hs : sects l.j = d.n) (hnd : l.node < d.nd) (he : kF l < l.L.length → l.epoch = d.e l.node.toNat) : Ctr Try.prog 17 [pt 2 0] (devH d false ++ logA l 3 false) (iv 0) (devH (flushD l (l.L.drop (kF l)) d) false ++ logA { l with flushed := l.start + l.L.length - 1 } 3 false) := by
  have hj := hl.j
  have ⟨d1, d2⟩ := hj.l
  have ⟨n1, n2⟩ := hj.n
  have ⟨p1, p2⟩ := hj.p
  have ⟨t1, t2⟩ := hl.st
  have ⟨f1, f2⟩ := hl.fl
  have ⟨l1, l2⟩ := hl.ln
  have ⟨e1, e2⟩ := hl.ep
  have ⟨q1, q2⟩ := hl.nd
  have hkf : kF l ≤ l.L.length := by unfold kF; omega
  by_cases h0 : 1 ≤ l.L.length
  · rw [logA_pos h0, logA_pos (l := { l with flushed := l.start + l.L.length - 1 }) h0]
    have hg := fl_all hl (d0 := d) (l0 := l) (l.L.length - kF l) 0 d l.flushed (by omega) (by omega) hd hlo (by omega) hs hnd (fun h => he (by omega))
    exact fl_start hl hg
  · have hf : l.flushed = l.start + l.L.length - 1 := by omega
    have hL0 : l.L = [] := List.eq_nil_of_length_eq_zero (by omega)
    have e1 : l.L.drop (kF l) = [] := by rw [hL0]; simp
    have e2 : ({ l with flushed := l.start + l.L.length - 1 } : Lo) = l := by rw [← hf]
    rw [e1, e2]
    unfold logA logRow
    rw [hL0]
    have hfs : l.flushed - l.start + 1 = 0 := by rw [hL0] at hf; simp at hf; omega
    exact pth (denQ (devC d ++ logC l ++ [.int .i64 ((l.flushed) - (l.start)), .int .i64 (((l.flushed) - (l.start)) + (1))]) rfl [.v (.slice (some ⟨1, 0, none⟩) d.n d.n)] rfl [enc secL d.S, enc recL []] (PL.cons (enc_plain secL_plain _) (PL.cons (enc_plain recL_plain _) no_rows))) ⟨[(.bin .sub 2 (sv 21) (sv 20), sv 22), (.bin .add 2 (sv 22) (.int .i64 1), sv 23), (.sli 43 (.slice none 0 1) (some (sv 23)) none none, .slice none 0 1)], [], []⟩ [] ⟨aq (.int .i64 ((l.flushed) - (l.start))) (.int .i64 (IntKind.i64.wrap ((l.flushed) - (l.start)))) (wVi64 ((l.flushed) - (l.start)) (by omega) (by omega)), aq (.int .i64 (((l.flushed) - (l.start)) + (1))) (.int .i64 (IntKind.i64.wrap (((l.flushed) - (l.start)) + (1)))) (wVi64 (((l.flushed) - (l.start)) + (1)) (by omega) (by omega)), asSliW (q := ((l.flushed) - (l.start)) + (1)) u43 z47 (by omega), trivial⟩ trivial trivial trivial 4 ([(0, .row 95 (.lst (ch 0 :: svs 0 13)) false), (1, .orow 114 0 false)] ++ [(2, .row 62 (.lst (pt 0 0 :: (svs 13 9 ++ [.slice none 0 1]))) false), (3, .mrow 47 1 false)]) [pt 2 0] [(0, 0), (1, 1), (2, 2), (3, 3)]
def cutM (l : Lo) (v : Int) : Lo := { l with start := v, L := l.L.drop (v - l.start).toNat }
omit hd in
theorem cut_arg {v : Int} (h : ¬ (l.start ≤ v ∧ v ≤ l.flushed + 1)) : Ctr Try.prog 18 [pt 2 0, iv v] (devH d false ++ logA l 3 false) (iv 2) (devH d false ++ logA l 3 false) := by
  have hj := hl.j
  have ⟨d1, d2⟩ := hj.l
  have ⟨n1, n2⟩ := hj.n
  have ⟨p1, p2⟩ := hj.p
  have ⟨t1, t2⟩ := hl.st
  have ⟨f1, f2⟩ := hl.fl
  have ⟨l1, l2⟩ := hl.ln
  have ⟨e1, e2⟩ := hl.ep
  have ⟨q1, q2⟩ := hl.nd
  · by_cases h0 : ((v) : Int) < (l.start)
    · skip
      exact pth (denQ ([.int .i64 (v)] ++ devC d ++ logC l) rfl [.v (.slice (some ⟨1, 0, none⟩) d.n d.n), ow 3 l.L.length INF] rfl [enc secL d.S, enc recL l.L] (PL.cons (enc_plain secL_plain _) (PL.cons (enc_plain recL_plain _) no_rows))) ⟨[(.bin .lss 2 (sv 0) (sv 21), .bool true)], [], []⟩ [] ⟨qT ((v) < (l.start)) (by omega), trivial⟩ trivial trivial trivial 4 ([(0, .row 95 (.lst (ch 0 :: svs 1 13)) false), (1, .orow 114 0 false)] ++ [(2, .row 62 (.lst (pt 0 0 :: (svs 14 9 ++ [ch 1]))) false), (3, .mrow 47 1 false)]) [pt 2 0, sv 0] [(0, 0), (1, 1), (2, 2), (3, 3)]
    · by_cases h1 : ((v) : Int) > ((l.flushed) + (1))
      · skip
        exact pth (denQ ([.int .i64 (v)] ++ devC d ++ logC l ++ [.int .i64 ((l.flushed) + (1))]) rfl [.v (.slice (some ⟨1, 0, none⟩) d.n d.n), ow 3 l.L.length INF] rfl [enc secL d.S, enc recL l.L] (PL.cons (enc_plain secL_plain _) (PL.cons (enc_plain recL_plain _) no_rows))) ⟨[(.bin .lss 2 (sv 0) (sv 21), .bool false), (.bin .add 2 (sv 22) (.int .i64 1), sv 23), (.bin .gtr 2 (sv 0) (sv 23), .bool true)], [], []⟩ [] ⟨qF ((v) < (l.start)) (by omega), aq (.int .i64 ((l.flushed) + (1))) (.int .i64 (IntKind.i64.wrap ((l.flushed) + (1)))) (wVi64 ((l.flushed) + (1)) (by omega) (by omega)), qT ((v) > ((l.flushed) + (1))) (by omega), trivial⟩ trivial trivial trivial 4 ([(0, .row 95 (.lst (ch 0 :: svs 1 13)) false), (1, .orow 114 0 false)] ++ [(2, .row 62 (.lst (pt 0 0 :: (svs 14 9 ++ [ch 1]))) false), (3, .mrow 47 1 false)]) [pt 2 0, sv 0] [(0, 0), (1, 1), (2, 2), (3, 3)]
      · exact absurd ⟨by omega, by omega⟩ h
theorem cut_ok {v : Int} (hv : l.start ≤ v ∧ v ≤ l.flushed + 1) (hs : sects l.j = d.n) (hnd : l.node < d.nd) (hlo : LeftOK d) (he : l.epoch = d.e l.node.toNat) : Ctr Try.prog 18 [pt 2 0, iv v] (devH d false ++ logA l 3 false) (iv 0) (devH (write1 d (headAt l.j l.node) (headS v l.epoch)) false ++ logA (cutM l v) 4 false) := by
  have hj := hl.j
  have ⟨d1, d2⟩ := hj.l
  have ⟨n1, n2⟩ := hj.n
  have ⟨p1, p2⟩ := hj.p
  have ⟨t1, t2⟩ := hl.st
  have ⟨f1, f2⟩ := hl.fl
  have ⟨l1, l2⟩ := hl.ln
  have ⟨e1, e2⟩ := hl.ep
  have ⟨q1, q2⟩ := hl.nd
  have ⟨v1, v2⟩ := hv
  have hph := puth_ctr (s := v) (e := l.epoch) (by omega) (by omega) e1 e2
  have hha := head_ctr hj hl.nd
  have hbd := recAt_bd hl.j hl.nd 1
  have hb2 := headAt_bd hj (n := l.node) ⟨q1, by omega⟩
  have hq : headAt l.j l.node + 1 ≤ sects l.j := by have := Int.emod_nonneg (1 - 1) (b := l.j.log) (by omega); unfold recAt at hbd; omega
  have hw := dwrite1_ok hd (n := l.node) (ep := l.epoch) (p := headAt l.j l.node) ⟨hl.nd.1, hnd⟩ (by omega) he hlo (headS v l.epoch)
  by_cases hz : l.L.length - (v - l.start).toNat = 0
  · have e0 : l.L.drop (v - l.start).toNat = [] := List.drop_eq_nil_of_le (by omega)
    unfold cutM
    rw [e0]
    suffices h : Ctr Try.prog 18 [pt 2 0, iv v] (devH d false ++ logA l 3 false) (iv 0) (devH (write1 d (headAt l.j l.node) (headS v l.epoch)) false ++ [(2, .row 62 (.lst (logRow { l with start := v, L := [] } 4)) false)]) from Ctr.cast (ctr_ghost h 4 47 false rfl rfl) rfl rfl rfl (by kernel_rfl)
    by_cases h0 : 1 ≤ l.L.length
    · rw [logA_pos h0]
      exact pth (denQ ([.int .i64 (v)] ++ devC d ++ logC l ++ [.int .i64 ((l.flushed) + (1))] ++ secL (headS v l.epoch) ++ [.int .i64 (headAt l.j l.node)] ++ devC (write1 d (headAt l.j l.node) (headS v l.epoch)) ++ [.int .i64 ((v) - (l.start))]) rfl [.v (.slice (some ⟨1, 0, none⟩) d.n d.n), .v (.slice (some ⟨3, 0, none⟩) l.L.length INF), .v (.slice (some ⟨3, (v - l.start).toNat * 101, none⟩) (l.L.length - (v - l.start).toNat) (INF - (v - l.start).toNat))] rfl [enc secL d.S, enc recL l.L, enc secL (write1 d (headAt l.j l.node) (headS v l.epoch)).S] (PL.cons (enc_plain secL_plain _) (PL.cons (enc_plain recL_plain _) (PL.cons (enc_plain secL_plain _) no_rows)))) ⟨[(.bin .lss 2 (sv 0) (sv 21), .bool false), (.bin .add 2 (sv 22) (.int .i64 1), sv 23), (.bin .gtr 2 (sv 0) (sv 23), .bool false), (.bin .sub 2 (sv 0) (sv 21), sv 102), (.sli 43 (.chan (some 1)) (some (sv 102)) none none, .chan (some 2))], [], []⟩ [(66, [⟨[.agg #[sv 0, sv 20]], 5, [], [], [], .tuple #[.agg (svs 24 64).toArray, .int .i64 0]⟩]), (67, [⟨[.agg #[sv 14, sv 15, sv 16, sv 17, sv 18], sv 19], 6, [], [], [], .tuple #[sv 88, .int .i64 0]⟩]), (65, [⟨[.pointer (some ⟨0, 0, none⟩), sv 19, sv 20, sv 88, .slice (some ⟨6, 0, none⟩) 1 1], 7, [], [⟨0, 0, false, .row 95 (.lst ([.chan (some 0)] ++ svs 1 13)) false, .row 95 (.lst ([.chan (some 0)] ++ svs 89 13)) false⟩, ⟨1, 1, false, .orow 114 0 false, .orow 114 2 false⟩, ⟨6, 2, true, .row 114 (.lst (svs 24 64)) false, .row 114 (.lst (svs 24 64)) false⟩], [], .int .i64 0⟩]), (68, [⟨[.chan (some 2)], 7, [(3, 1)], [], [], .slice none 0 1⟩])] ⟨qF ((v) < (l.start)) (by omega), aq (.int .i64 ((l.flushed) + (1))) (.int .i64 (IntKind.i64.wrap ((l.flushed) + (1)))) (wVi64 ((l.flushed) + (1)) (by omega) (by omega)), qF ((v) > ((l.flushed) + (1))) (by omega), aq (.int .i64 ((v) - (l.start))) (.int .i64 (IntKind.i64.wrap ((v) - (l.start)))) (wVi64 ((v) - (l.start)) (by omega) (by omega)), asSliP u43 z47 rfl rfl (by omega) (by omega) (by omega) rfl, trivial⟩ trivial trivial ⟨oe hph, oe hha, oe hw, oe (cloneR_empN (o := (v - l.start).toNat * 101) (cp := INF - (v - l.start).toNat) hz), trivial⟩ 4 ([(0, .row 95 (.lst (ch 0 :: svs 1 13)) false), (1, .orow 114 0 false)] ++ [(2, .row 62 (.lst (pt 0 0 :: (svs 14 9 ++ [ch 1]))) false), (3, .orow 47 1 false)]) [pt 2 0, sv 0] [(0, 0), (1, 1), (2, 2)]
    · have hL0 : l.L = [] := List.eq_nil_of_length_eq_zero (by omega)
      have hvs : v - l.start = 0 := by rw [hL0] at f2 hz; simp at f2; omega
      unfold logA logRow
      rw [hL0]
      exact pth (denQ ([.int .i64 (v)] ++ devC d ++ logC l ++ [.int .i64 ((l.flushed) + (1))] ++ secL (headS v l.epoch) ++ [.int .i64 (headAt l.j l.node)] ++ devC (write1 d (headAt l.j l.node) (headS v l.epoch)) ++ [.int .i64 ((v) - (l.start))]) rfl [.v (.slice (some ⟨1, 0, none⟩) d.n d.n)] rfl [enc secL d.S, enc recL [], enc secL (write1 d (headAt l.j l.node) (headS v l.epoch)).S] (PL.cons (enc_plain secL_plain _) (PL.cons (enc_plain recL_plain _) (PL.cons (enc_plain secL_plain _) no_rows)))) ⟨[(.bin .lss 2 (sv 0) (sv 21), .bool false), (.bin .add 2 (sv 22) (.int .i64 1), sv 23), (.bin .gtr 2 (sv 0) (sv 23), .bool false), (.bin .sub 2 (sv 0) (sv 21), sv 102), (.sli 43 (.slice none 0 1) (some (sv 102)) none none, .slice none 0 1)], [], []⟩ [(66, [⟨[.agg #[sv 0, sv 20]], 5, [], [], [], .tuple #[.agg (svs 24 64).toArray, .int .i64 0]⟩]), (67, [⟨[.agg #[sv 14, sv 15, sv 16, sv 17, sv 18], sv 19], 6, [], [], [], .tuple #[sv 88, .int .i64 0]⟩]), (65, [⟨[.pointer (some ⟨0, 0, none⟩), sv 19, sv 20, sv 88, .slice (some ⟨6, 0, none⟩) 1 1], 7, [], [⟨0, 0, false, .row 95 (.lst ([.chan (some 0)] ++ svs 1 13)) false, .row 95 (.lst ([.chan (some 0)] ++ svs 89 13)) false⟩, ⟨1, 1, false, .orow 114 0 false, .orow 114 2 false⟩, ⟨6, 2, true, .row 114 (.lst (svs 24 64)) false, .row 114 (.lst (svs 24 64)) false⟩], [], .int .i64 0⟩]), (68, [⟨[.slice none 0 1], 7, [], [], [], .slice none 0 1⟩])] ⟨qF ((v) < (l.start)) (by omega), aq (.int .i64 ((l.flushed) + (1))) (.int .i64 (IntKind.i64.wrap ((l.flushed) + (1)))) (wVi64 ((l.flushed) + (1)) (by omega) (by omega)), qF ((v) > ((l.flushed) + (1))) (by omega), aq (.int .i64 ((v) - (l.start))) (.int .i64 (IntKind.i64.wrap ((v) - (l.start)))) (wVi64 ((v) - (l.start)) (by omega) (by omega)), asSliW (q := (v) - (l.start)) u43 z47 (by omega), trivial⟩ trivial trivial ⟨oe hph, oe hha, oe hw, oe cloneR_weak, trivial⟩ 4 ([(0, .row 95 (.lst (ch 0 :: svs 1 13)) false), (1, .orow 114 0 false)] ++ [(2, .row 62 (.lst (pt 0 0 :: (svs 14 9 ++ [.slice none 0 1]))) false), (3, .mrow 47 1 false)]) [pt 2 0, sv 0] [(0, 0), (1, 1), (2, 2)]
  · have h0 : 1 ≤ l.L.length := by omega
    rw [logA_pos h0, logA_pos (l := cutM l v) (by show 1 ≤ (l.L.drop _).length; rw [List.length_drop]; omega)]
    unfold logP cutM
    simp only [List.length_drop]
    have hcl := cloneR_ctr (S := l.L) (i := (v - l.start).toNat) (m := l.L.length - (v - l.start).toNat) (cp := INF - (v - l.start).toNat) (by omega) (by omega) (by unfold HALF; omega)
    exact pth (denQ ([.int .i64 (v)] ++ devC d ++ logC l ++ [.int .i64 ((l.flushed) + (1))] ++ secL (headS v l.epoch) ++ [.int .i64 (headAt l.j l.node)] ++ devC (write1 d (headAt l.j l.node) (headS v l.epoch)) ++ [.int .i64 ((v) - (l.start))]) rfl [.v (.slice (some ⟨1, 0, none⟩) d.n d.n), .v (.slice (some ⟨3, 0, none⟩) l.L.length INF), .v (.slice (some ⟨3, (v - l.start).toNat * 101, none⟩) (l.L.length - (v - l.start).toNat) (INF - (v - l.start).toNat)), .v (.slice (some ⟨7, 0, none⟩) (l.L.length - (v - l.start).toNat) INF)] rfl [enc secL d.S, enc recL l.L, enc secL (write1 d (headAt l.j l.node) (headS v l.epoch)).S, enc recL (l.L.drop (v - l.start).toNat)] (PL.cons (enc_plain secL_plain _) (PL.cons (enc_plain recL_plain _) (PL.cons (enc_plain secL_plain _) (PL.cons (enc_plain recL_plain _) no_rows))))) ⟨[(.bin .lss 2 (sv 0) (sv 21), .bool false), (.bin .add 2 (sv 22) (.int .i64 1), sv 23), (.bin .gtr 2 (sv 0) (sv 23), .bool false), (.bin .sub 2 (sv 0) (sv 21), sv 102), (.sli 43 (.chan (some 1)) (some (sv 102)) none none, .chan (some 2))], [], []⟩ [(66, [⟨[.agg #[sv 0, sv 20]], 5, [], [], [], .tuple #[.agg (svs 24 64).toArray, .int .i64 0]⟩]), (67, [⟨[.agg #[sv 14, sv 15, sv 16, sv 17, sv 18], sv 19], 6, [], [], [], .tuple #[sv 88, .int .i64 0]⟩]), (65, [⟨[.pointer (some ⟨0, 0, none⟩), sv 19, sv 20, sv 88, .slice (some ⟨6, 0, none⟩) 1 1], 7, [], [⟨0, 0, false, .row 95 (.lst ([.chan (some 0)] ++ svs 1 13)) false, .row 95 (.lst ([.chan (some 0)] ++ svs 89 13)) false⟩, ⟨1, 1, false, .orow 114 0 false, .orow 114 2 false⟩, ⟨6, 2, true, .row 114 (.lst (svs 24 64)) false, .row 114 (.lst (svs 24 64)) false⟩], [], .int .i64 0⟩]), (68, [⟨[.chan (some 2)], 7, [], [⟨3, 1, true, .orow 47 1 false, .orow 47 1 false⟩], [(2, .orow 47 3 false)], .chan (some 3)⟩])] ⟨qF ((v) < (l.start)) (by omega), aq (.int .i64 ((l.flushed) + (1))) (.int .i64 (IntKind.i64.wrap ((l.flushed) + (1)))) (wVi64 ((l.flushed) + (1)) (by omega) (by omega)), qF ((v) > ((l.flushed) + (1))) (by omega), aq (.int .i64 ((v) - (l.start))) (.int .i64 (IntKind.i64.wrap ((v) - (l.start)))) (wVi64 ((v) - (l.start)) (by omega) (by omega)), asSliP u43 z47 rfl rfl (by omega) (by omega) (by omega) rfl, trivial⟩ trivial trivial ⟨oe hph, oe hha, oe hw, oe hcl, trivial⟩ 4 ([(0, .row 95 (.lst (ch 0 :: svs 1 13)) false), (1, .orow 114 0 false)] ++ [(2, .row 62 (.lst (pt 0 0 :: (svs 14 9 ++ [ch 1]))) false), (3, .orow 47 1 false)]) [pt 2 0, sv 0] [(0, 0), (1, 1), (2, 2), (7, 4)]
end
end Go.Proofs.Ytpennfojidpmeaa
namespace Go.Proofs.Ytpennfojidpmeaa
open Go.Sx
set_option maxRecDepth 20000
def Norm (r : Rec) : Prop := ∀ i, 96 ≤ i → r.body i = 0
theorem half_body (r : Rec) (h : Nat) {i : Nat} (h1 : 14 ≤ i) (h2 : i < 62) : half r h i = r.body (48 * h + (i - 14)) := by
  unfold half
  rw [if_neg (by omega), if_neg (by omega), if_neg (by omega), if_neg (by omega), if_neg (by omega), if_neg (by omega), if_neg (by omega), if_neg (by omega), if_neg (by omega), if_neg (by omega), if_neg (by omega), if_neg (by omega), if_neg (by omega), if_neg (by omega), if_pos h2]
theorem said_half {r : Rec} (h : May r) (hb : Byte r.body) (hn : Norm r) : said (half r 0) (half r 1) = r := by
  obtain ⟨node, epoch, lsn, page, psn, body⟩ := r
  obtain ⟨⟨n1, n2⟩, ⟨p1, p2⟩, ⟨e1, e2⟩, ⟨l1, l2⟩, ⟨s1, s2⟩⟩ := h
  simp only at n1 n2 p1 p2 e1 e2 l1 l2 s1 s2
  have hbody : (fun i => if i < 48 then half ⟨node, epoch, lsn, page, psn, body⟩ 0 (14 + i) else if i < 96 then half ⟨node, epoch, lsn, page, psn, body⟩ 1 (14 + (i - 48)) else 0) = body := by
    funext i
    by_cases h1 : i < 48
    · rw [if_pos h1, half_body _ _ (by omega) (by omega)]
      show body (48 * 0 + (14 + i - 14)) = body i
      congr 1; omega
    · rw [if_neg h1]
      by_cases h2 : i < 96
      · rw [if_pos h2, half_body _ _ (by omega) (by omega)]
        show body (48 * 1 + (14 + (i - 48) - 14)) = body i
        congr 1; omega
      · rw [if_neg h2]; exact (hn i (by omega)).symm
  unfold said
  rw [hbody]
  have e : ∀ x : Int, 0 ≤ x → x ≤ 2147483647 → x / 16777216 % 256 * 16777216 + x / 65536 % 256 * 65536 + x / 256 % 256 * 256 + x % 256 = x := by intro x h1 h2; omega
  show Rec.mk ((node * 16 + page) % 256 / 16) (epoch / 16777216 % 256 * 16777216 + epoch / 65536 % 256 * 65536 + epoch / 256 % 256 * 256 + epoch % 256) (lsn / 16777216 % 256 * 16777216 + lsn / 65536 % 256 * 65536 + lsn / 256 % 256 * 256 + lsn % 256) ((node * 16 + page) % 256 % 16) (psn / 16777216 % 256 * 16777216 + psn / 65536 % 256 * 65536 + psn / 256 % 256 * 256 + psn % 256) body = _
  rw [e epoch (by omega) e2, e lsn (by omega) l2, e psn (by omega) s2]
  have a1 : (node * 16 + page) % 256 / 16 = node := by omega
  have a2 : (node * 16 + page) % 256 % 16 = page := by omega
  rw [a1, a2]
theorem eqP_refl (a b : Sec) : eqP a b a b = true := by unfold eqP; rw [eqS_refl, eqS_refl]; rfl
theorem getM_half {r : Rec} (h : May r) (hb : Byte r.body) (hn : Norm r) : getM (half r 0) (half r 1) = some r := by
  unfold getM
  rw [said_half h hb hn, if_pos h, if_pos (eqP_refl _ _)]
theorem getM_zero (b : Sec) : getM zeroS b = none := by
  unfold getM
  rw [if_neg]
  intro h
  have := h.e
  simp [said, zeroS] at this
theorem headV_zero : headV zeroS = .tuple #[.agg #[iv 1, iv 0], iv 0] := by
  unfold headV
  rw [if_pos (eqS_refl _)]
  rfl
theorem headV_headS {s e : Int} (h1 : 1 ≤ s ∧ s ≤ 2147483647) (h2 : 1 ≤ e ∧ e ≤ 2147483647) : headV (headS s e) = .tuple #[.agg #[iv s, iv e], iv 0] := by
  have hz : ¬ eqS (headS s e) zeroS = true := by
    intro h
    have := eqS_iff.1 h 0 (by decide)
    simp [headS, zeroS] at this
  have a : ∀ x : Int, 0 ≤ x → x ≤ 2147483647 → x / 16777216 % 256 * 16777216 + x / 65536 % 256 * 65536 + x / 256 % 256 * 256 + x % 256 = x := by intro x h1 h2; omega
  have hs : hS (headS s e) = s := a s (by omega) h1.2
  have he : hE (headS s e) = e := a e (by omega) h2.2
  unfold headV
  rw [if_neg hz, hs, he, if_pos ⟨⟨by rw [hs]; exact h1.1, by rw [hs]; exact h1.2, by rw [he]; exact h2.1, by rw [he]; exact h2.2⟩, eqS_refl _⟩]
theorem gt_set {α : Type} [Inhabited α] (S : List α) (i j : Nat) (x : α) (hi : i < S.length) : gt (S.set i x) j = if i = j then x else gt S j := by
  unfold gt
  rw [List.getElem?_set]
  by_cases h : i = j
  · rw [if_pos h, if_pos h, if_pos hi]; rfl
  · rw [if_neg h, if_neg h]
theorem gt_app_lt {α : Type} [Inhabited α] (L M : List α) {i : Nat} (h : i < L.length) : gt (L ++ M) i = gt L i := by unfold gt; rw [List.getElem?_append_left h]
theorem gt_app_eq {α : Type} [Inhabited α] (L : List α) (x : α) : gt (L ++ [x]) L.length = x := by unfold gt; simp
theorem gt_drop {α : Type} [Inhabited α] (L : List α) (k i : Nat) : gt (L.drop k) i = gt L (k + i) := by unfold gt; rw [List.getElem?_drop]
theorem gt_mem {α : Type} [Inhabited α] {L : List α} {i : Nat} (h : i < L.length) : gt L i ∈ L := by unfold gt; rw [List.getElem?_eq_getElem h]; exact List.getElem_mem h
def at1 (d : Dv) (j : Jb) (n m : Int) : Sec := gt d.S (recAt j n m).toNat
def at2 (d : Dv) (j : Jb) (n m : Int) : Sec := gt d.S (recAt j n m + 1).toNat
def Chain : Int → List Rec → Prop
  | _, [] => True
  | le, r :: rs => le ≤ r.epoch ∧ Chain r.epoch rs
theorem chain_app : ∀ {le : Int} {L : List Rec} {x : Rec}, Chain le L → le ≤ x.epoch → (∀ r ∈ L, r.epoch ≤ x.epoch) → Chain le (L ++ [x])
  | _, [], _, _, h, _ => ⟨h, trivial⟩
  | _, r :: _, _, h, _, h3 => ⟨h.1, chain_app h.2 (h3 r List.mem_cons_self) fun q hq => h3 q (List.mem_cons_of_mem _ hq)⟩
theorem chain_take : ∀ {le : Int} {L : List Rec} (k : Nat), Chain le L → Chain le (L.take k)
  | _, [], k, _ => by rw [List.take_nil]; trivial
  | _, r :: rs, 0, _ => trivial
  | _, r :: rs, k + 1, h => ⟨h.1, chain_take k h.2⟩
theorem chain_const {e : Int} : ∀ {le : Int} {L : List Rec}, le ≤ e → (∀ r ∈ L, r.epoch = e) → Chain le L
  | _, [], _, _ => trivial
  | _, r :: rs, h, h2 => ⟨by rw [h2 r List.mem_cons_self]; exact h, chain_const (by rw [h2 r List.mem_cons_self]; exact Int.le_refl _) fun q hq => h2 q (List.mem_cons_of_mem _ hq)⟩
theorem scanL_eq {d : Dv} {j : Jb} {n : Int} : ∀ (L : List Rec) (k : Nat) (m le : Int), L.length ≤ k → Chain le L →
    (∀ t, t < L.length → m + t < 2147483647 ∧ getM (at1 d j n (m + t)) (at2 d j n (m + t)) = some (gt L t) ∧ (gt L t).node = n ∧ (gt L t).lsn = m + t ∧ (gt L t).page < j.pages) →
    (L.length = k ∨ 2147483647 ≤ m + L.length ∨ ∀ r, getM (at1 d j n (m + L.length)) (at2 d j n (m + L.length)) = some r → r.lsn ≠ m + L.length) → scanL d j n k m le = L
  | [], 0, m, le, _, _, _, _ => rfl
  | [], k + 1, m, le, _, _, _, h => by
    unfold scanL
    split
    · rename_i hm
      rcases h with h | h | h
      · simp at h
      · simp at h; omega
      · simp only [List.length_nil, Int.natCast_zero, Int.add_zero] at h
        unfold at1 at2 at h
        split
        · rename_i r hr
          rw [if_neg fun hh => h r hr hh.2.1]
        · rfl
    · rfl
  | x :: L, 0, m, le, h, _, _, _ => by simp at h
  | x :: L, k + 1, m, le, h0, hle, h, hend => by
    have hx := h 0 (by simp)
    simp only [Int.natCast_zero, Int.add_zero] at hx
    have e0 : gt (x :: L) 0 = x := rfl
    rw [e0] at hx
    obtain ⟨h1, h2, h3, h4, h5⟩ := hx
    unfold at1 at2 at h2
    unfold scanL
    rw [if_pos h1, h2]
    simp only
    rw [if_pos ⟨h3, h4, hle.1, h5⟩]
    congr 1
    have ei : ∀ t : Nat, m + 1 + (t : Int) = m + ((t + 1 : Nat) : Int) := fun t => by omega
    refine scanL_eq L k (m + 1) x.epoch (by simp at h0; omega) hle.2 (fun t ht => ?_) ?_
    · have := h (t + 1) (by simp; omega)
      rw [ei]
      exact this
    · rcases hend with hend | hend | hend
      · left; simp at hend; omega
      · right; left; simp at hend; omega
      · right; right
        rw [ei]
        exact hend
structure Inv (d : Dv) (l : Lo) : Prop where
  hd : DOK d
  hl : LOK l
  hs : sects l.j = d.n
  hnd : l.node < d.nd
  he : l.epoch = d.e l.node.toNat
  cut : d.cut = false
  head : ∃ e', headV (gt d.S (headAt l.j l.node).toNat) = .tuple #[.agg #[iv l.start, iv e'], iv 0] ∧ 0 ≤ e' ∧ e' ≤ 2147483647 ∧ max1 e' ≤ l.epoch ∧ Chain (max1 e') l.L
  own : ∀ r ∈ l.L, r.epoch ≤ l.epoch ∧ r.node = l.node ∧ r.page < l.j.pages ∧ Norm r
  std : ∀ i, i < kF l → at1 d l.j l.node (l.start + i) = half (gt l.L i) 0 ∧ at2 d l.j l.node (l.start + i) = half (gt l.L i) 1
  old : ∀ m r, getM (at1 d l.j l.node m) (at2 d l.j l.node m) = some r → r.lsn ≤ l.flushed
theorem Inv.left {d : Dv} {l : Lo} (h : Inv d l) : LeftOK d := fun hc => by rw [h.cut] at hc; cases hc
theorem kF_le {l : Lo} (hl : LOK l) : kF l ≤ l.L.length ∧ (kF l : Int) = l.flushed - l.start + 1 := by
  have := hl.fl
  unfold kF
  omega
theorem recAt_eq {j : Jb} {n a b : Int} (h : recAt j n a = recAt j n b) : (a - 1) % j.log = (b - 1) % j.log := by unfold recAt at h; omega
theorem mod_near {a b L : Int} (h : a % L = b % L) (h1 : a ≤ b) (h2 : b < a + L) : a = b := by
  have h3 := Int.emod_emod_of_dvd (b - a) (Int.dvd_refl L)
  have h4 : (b - a) % L = 0 := by rw [Int.sub_emod, h, Int.sub_self, Int.zero_emod]
  have h5 : (b - a) % L = b - a := Int.emod_eq_of_lt (by omega) (by omega)
  omega
theorem read_inv {d : Dv} {l : Lo} (h : Inv d l) {e' : Int} (he : Chain (max1 e') l.L) : scanL d l.j l.node l.j.log.toNat l.start (max1 e') = l.L.take (kF l) := by
  have hk := kF_le h.hl
  have hlen := h.hl.ln
  have hlog := h.hl.j.l
  have htl : (l.L.take (kF l)).length = kF l := by rw [List.length_take]; omega
  have hg : ∀ t, t < kF l → gt (l.L.take (kF l)) t = gt l.L t := fun t ht => by unfold gt; rw [List.getElem?_take, if_pos ht]
  refine scanL_eq _ _ _ _ (by rw [htl]; omega) (chain_take _ he) (fun t ht => ?_) ?_
  · rw [htl] at ht
    rw [hg t ht]
    have hm := gt_mem (L := l.L) (i := t) (by omega)
    obtain ⟨o1, o2, o3, o4⟩ := h.own _ hm
    obtain ⟨s1, s2⟩ := h.std t ht
    rw [s1, s2, getM_half (h.hl.may _ hm) (h.hl.by' _ hm) o4]
    exact ⟨by omega, rfl, o2, h.hl.lsn t (by omega), o3⟩
  · rw [htl]
    right; right
    intro r hr
    have := h.old _ r hr
    omega
theorem append_inv {d : Dv} {l : Lo} (h : Inv d l) {p : Int} {v : Ver} (hp : ApOK l p v) (hr : roomM l ≠ 0) (hb : Byte v.body) (hn : ∀ i, 96 ≤ i → v.body i = 0) : Inv d { l with L := l.L ++ [⟨l.node, l.epoch, l.start + l.L.length, p, v.psn, v.body⟩] } := by
  obtain ⟨a1, a2, a3, a4⟩ := hp
  have hlen := h.hl.ln
  have hlog := h.hl.j.l
  have hroom : l.start + l.L.length < 2147483647 ∧ l.L.length < l.j.log := by
    unfold roomM at hr
    split at hr
    · exact absurd rfl hr
    · omega
  have hst := h.hl.st
  have hep := h.hl.ep
  have hnd := h.hl.nd
  have hjn := h.hl.j.n
  have hjp := h.hl.j.p
  have hk := kF_le h.hl
  have hfl := h.hl.fl
  have hnew : May (⟨l.node, l.epoch, l.start + l.L.length, p, v.psn, v.body⟩ : Rec) := by constructor <;> simp only <;> omega
  have hl' : LOK { l with L := l.L ++ [(⟨l.node, l.epoch, l.start + l.L.length, p, v.psn, v.body⟩ : Rec)] } := by
    refine ⟨h.hl.j, hnd, hep, hst, ?_, ?_, ?_, ?_, ?_⟩
    · simp only [List.length_append, List.length_singleton]; omega
    · simp only [List.length_append, List.length_singleton]; omega
    · intro r hr
      rcases List.mem_append.1 hr with hr | hr
      · exact h.hl.may r hr
      · rw [List.mem_singleton.1 hr]; exact hnew
    · intro r hr
      rcases List.mem_append.1 hr with hr | hr
      · exact h.hl.by' r hr
      · rw [List.mem_singleton.1 hr]; exact hb
    · intro i hi
      simp only [List.length_append, List.length_singleton] at hi
      by_cases h1 : i < l.L.length
      · rw [gt_app_lt _ _ h1]; exact h.hl.lsn i h1
      · have : i = l.L.length := by omega
        subst this
        rw [gt_app_eq]
  refine ⟨h.hd, hl', h.hs, h.hnd, h.he, h.cut, ?_, ?_, ?_, h.old⟩
  · obtain ⟨e', q1, q2, q3, q4, q5⟩ := h.head
    exact ⟨e', q1, q2, q3, q4, chain_app q5 q4 fun r hr => (h.own r hr).1⟩
  · intro r hr
    rcases List.mem_append.1 hr with hr | hr
    · exact h.own r hr
    · rw [List.mem_singleton.1 hr]; exact ⟨Int.le_refl _, rfl, a2, hn⟩
  · intro i hi
    have hi : i < kF l := hi
    show _ = half (gt (l.L ++ _) i) 0 ∧ _ = half (gt (l.L ++ _) i) 1
    rw [gt_app_lt _ _ (by omega)]
    exact h.std i hi
end Go.Proofs.Ytpennfojidpmeaa
namespace Go.Proofs.Ytpennfojidpmeaa
open Go.Sx
set_option maxRecDepth 20000
theorem half_par {j : Jb} {n a b : Int} : recAt j n a ≠ recAt j n b + 1 := by unfold recAt; omega
theorem S_write2 {d : Dv} (hc : d.cut = false) (p : Int) (a b : Sec) : (write2 d p a b).S = (d.S.set p.toNat a).set (p + 1).toNat b := by simp [write2, write1, stop, hc]
theorem S_write1 {d : Dv} (hc : d.cut = false) (p : Int) (a : Sec) : (write1 d p a).S = d.S.set p.toNat a := by simp [write1, stop, hc]
theorem at_write2 {d : Dv} (hd : DOK d) (hc : d.cut = false) {j : Jb} (hj : MayJ j) (hs : sects j = d.n) {n : Int} (hn : 0 ≤ n ∧ n < j.nodes) (k m : Int) (a b : Sec) :
    at1 (write2 d (recAt j n k) a b) j n m = (if recAt j n m = recAt j n k then a else at1 d j n m) ∧ at2 (write2 d (recAt j n k) a b) j n m = (if recAt j n m = recAt j n k then b else at2 d j n m) := by
  have b1 := recAt_bd hj hn k
  have b2 := recAt_bd hj hn m
  have hl := hd.len
  have p1 := half_par (j := j) (n := n) (a := m) (b := k)
  have p2 := half_par (j := j) (n := n) (a := k) (b := m)
  unfold at1 at2
  rw [S_write2 hc, gt_set _ _ _ _ (by rw [List.length_set]; omega), gt_set _ _ _ _ (by omega), gt_set _ _ _ _ (by rw [List.length_set]; omega), gt_set _ _ _ _ (by omega)]
  by_cases h : recAt j n m = recAt j n k
  · rw [if_pos h, if_pos h, if_neg (by omega), if_pos (by omega), if_pos (by omega)]
    exact ⟨rfl, rfl⟩
  · rw [if_neg h, if_neg h, if_neg (by omega), if_neg (by omega), if_neg (by omega), if_neg (by omega)]
    exact ⟨rfl, rfl⟩
theorem head_write2 {d : Dv} (hd : DOK d) (hc : d.cut = false) {j : Jb} (hj : MayJ j) (hs : sects j = d.n) {n : Int} (hn : 0 ≤ n ∧ n < j.nodes) (k : Int) (a b : Sec) : gt (write2 d (recAt j n k) a b).S (headAt j n).toNat = gt d.S (headAt j n).toNat := by
  have b1 := recAt_bd hj hn k
  have hb := headAt_bd hj (n := n) ⟨hn.1, by have := hj.n; omega⟩
  have hl := hd.len
  have h1 : headAt j n < recAt j n k := by have := Int.emod_nonneg (k - 1) (b := j.log) (by have := hj.l; omega); unfold recAt; omega
  rw [S_write2 hc, gt_set _ _ _ _ (by rw [List.length_set]; omega), gt_set _ _ _ _ (by omega), if_neg (by omega), if_neg (by omega)]
theorem flush1_inv {d : Dv} {l : Lo} (h : Inv d l) (hk : kF l < l.L.length) (hdn : d.done ≤ 999999998) : Inv (write2 d (recAt l.j l.node (gt l.L (kF l)).lsn) (half (gt l.L (kF l)) 0) (half (gt l.L (kF l)) 1)) { l with flushed := l.flushed + 1 } := by
  obtain ⟨k1, k2⟩ := kF_le h.hl
  have hm := gt_mem hk
  have hlsn := h.hl.lsn _ hk
  have hby := h.hl.by' _ hm
  have hln := h.hl.ln
  have hfl := h.hl.fl
  obtain ⟨o1, o2, o3, o4⟩ := h.own _ hm
  obtain ⟨w1, w2, w3⟩ := write2_ok h.hd h.left (recAt l.j l.node (gt l.L (kF l)).lsn) (half_byte hby (h := 0) (by decide)) (half_byte hby (h := 1) (by decide)) hdn
  have hat := at_write2 h.hd h.cut h.hl.j h.hs h.hl.nd (gt l.L (kF l)).lsn
  have hkF : kF { l with flushed := l.flushed + 1 } = kF l + 1 := by unfold kF; simp only; omega
  refine ⟨w1, ⟨h.hl.j, h.hl.nd, h.hl.ep, h.hl.st, by simp only; omega, h.hl.ln, h.hl.may, h.hl.by', h.hl.lsn⟩, h.hs, h.hnd, h.he, h.cut, ?_, h.own, ?_, ?_⟩
  · obtain ⟨e', q1, q2⟩ := h.head
    exact ⟨e', by simp only; rw [head_write2 h.hd h.cut h.hl.j h.hs h.hl.nd]; exact q1, q2⟩
  · intro i hi
    rw [hkF] at hi
    obtain ⟨a1, a2⟩ := hat (l.start + i) (half (gt l.L (kF l)) 0) (half (gt l.L (kF l)) 1)
    simp only
    rw [a1, a2]
    by_cases hik : i = kF l
    · subst hik
      rw [if_pos (by rw [hlsn]), if_pos (by rw [hlsn])]
      exact ⟨rfl, rfl⟩
    · have hne : ¬ recAt l.j l.node (l.start + i) = recAt l.j l.node (gt l.L (kF l)).lsn := fun he => by
        have := recAt_eq he
        rw [hlsn] at this
        have h2 : (l.start + i - 1 : Int) = l.start + (kF l : Nat) - 1 := mod_near this (by omega) (by omega)
        omega
      rw [if_neg hne, if_neg hne]
      exact h.std i (by omega)
  · intro m r hr
    obtain ⟨a1, a2⟩ := hat m (half (gt l.L (kF l)) 0) (half (gt l.L (kF l)) 1)
    simp only at hr ⊢
    rw [a1, a2] at hr
    by_cases hm2 : recAt l.j l.node m = recAt l.j l.node (gt l.L (kF l)).lsn
    · rw [if_pos hm2, if_pos hm2, getM_half (h.hl.may _ hm) hby o4] at hr
      cases hr
      omega
    · rw [if_neg hm2, if_neg hm2] at hr
      have := h.old m r hr
      omega
theorem flushD_fl (l : Lo) (x : Int) : ∀ (rs : List Rec) (d : Dv), flushD { l with flushed := x } rs d = flushD l rs d
  | [], _ => rfl
  | _ :: rs, _ => flushD_fl l x rs _
theorem flush_inv : ∀ (k : Nat) {d : Dv} {l : Lo}, Inv d l → kF l + k = l.L.length → d.done + 2 * k ≤ 999999998 → Inv (flushD l (l.L.drop (kF l)) d) { l with flushed := l.start + l.L.length - 1 } ∧ (flushD l (l.L.drop (kF l)) d).done ≤ d.done + 2 * k
  | 0, d, l, h, hk, hd => by
    have ⟨k1, k2⟩ := kF_le h.hl
    rw [List.drop_eq_nil_of_le (by omega)]
    have e : ({ l with flushed := l.start + l.L.length - 1 } : Lo) = l := by
      have : l.start + l.L.length - 1 = l.flushed := by omega
      rw [this]
    rw [e]
    exact ⟨h, by show d.done ≤ _; omega⟩
  | k + 1, d, l, h, hk, hd => by
    have hlt : kF l < l.L.length := by omega
    have hkF : kF { l with flushed := l.flushed + 1 } = kF l + 1 := by have := (kF_le h.hl).2; unfold kF at this ⊢; simp only; omega
    have h1 := flush1_inv h hlt (by omega)
    have hw := (write2_ok h.hd h.left (recAt l.j l.node (gt l.L (kF l)).lsn) (half_byte (h.hl.by' _ (gt_mem hlt)) (h := 0) (by decide)) (half_byte (h.hl.by' _ (gt_mem hlt)) (h := 1) (by decide)) (by omega)).2.2
    have h2 := flush_inv k h1 (by rw [hkF]; simp only; omega) (by omega)
    rw [hkF, flushD_fl] at h2
    rw [List.drop_eq_getElem_cons hlt]
    have e : l.L[kF l] = gt l.L (kF l) := by unfold gt; rw [List.getElem?_eq_getElem hlt]; rfl
    rw [e]
    exact ⟨h2.1, by have := h2.2; simp only at this; show (flushD l (l.L.drop (kF l + 1)) (write2 d (recAt l.j l.node (gt l.L (kF l)).lsn) (half (gt l.L (kF l)) 0) (half (gt l.L (kF l)) 1))).done ≤ _; omega⟩
theorem cut_inv {d : Dv} {l : Lo} (h : Inv d l) {v : Int} (hv : l.start ≤ v ∧ v ≤ l.flushed + 1) (hee : ∀ r ∈ l.L.drop (v - l.start).toNat, r.epoch = l.epoch) (hdn : d.done ≤ 999999998) : Inv (write1 d (headAt l.j l.node) (headS v l.epoch)) (cutM l v) := by
  obtain ⟨k1, k2⟩ := kF_le h.hl
  obtain ⟨v1, v2⟩ := hv
  have hln := h.hl.ln
  have hfl := h.hl.fl
  have hst := h.hl.st
  have hep := h.hl.ep
  have hjn := h.hl.j.n
  obtain ⟨w1, w2, w3⟩ := write1_ok h.hd h.left (headAt l.j l.node) (headS_byte v l.epoch) (by omega)
  have hb := headAt_bd h.hl.j (n := l.node) ⟨h.hl.nd.1, by have := h.hl.nd; omega⟩
  have hlen := h.hd.len
  have hS := S_write1 h.cut (headAt l.j l.node) (headS v l.epoch)
  have hrb := fun m => recAt_bd h.hl.j h.hl.nd m
  have hhr : ∀ m, headAt l.j l.node < recAt l.j l.node m := fun m => by have := Int.emod_nonneg (m - 1) (b := l.j.log) (by have := h.hl.j.l; omega); unfold recAt; omega
  have hsz := h.hs
  have hat : ∀ m, at1 (write1 d (headAt l.j l.node) (headS v l.epoch)) l.j l.node m = at1 d l.j l.node m ∧ at2 (write1 d (headAt l.j l.node) (headS v l.epoch)) l.j l.node m = at2 d l.j l.node m := fun m => by
    have b1 := hrb m
    have b2 := hhr m
    unfold at1 at2
    rw [hS, gt_set _ _ _ _ (by omega), gt_set _ _ _ _ (by omega), if_neg (by omega), if_neg (by omega)]
    exact ⟨rfl, rfl⟩
  have hq : ((v - l.start).toNat : Int) = v - l.start := by omega
  have hdl : (l.L.drop (v - l.start).toNat).length = l.L.length - (v - l.start).toNat := List.length_drop
  have hkF : kF (cutM l v) = kF l - (v - l.start).toNat := by unfold kF cutM; simp only; omega
  refine ⟨w1, ⟨h.hl.j, h.hl.nd, hep, ?_, ?_, ?_, ?_, ?_, ?_⟩, h.hs, h.hnd, h.he, h.cut, ?_, ?_, ?_, ?_⟩
  · show 1 ≤ v ∧ v ≤ _; omega
  · show v - 1 ≤ l.flushed ∧ l.flushed < v + ((l.L.drop (v - l.start).toNat).length : Int); rw [hdl]; omega
  · show ((l.L.drop (v - l.start).toNat).length : Int) ≤ l.j.log ∧ v + ((l.L.drop (v - l.start).toNat).length : Int) ≤ _; rw [hdl]; omega
  · exact fun r hr => h.hl.may r (List.mem_of_mem_drop hr)
  · exact fun r hr => h.hl.by' r (List.mem_of_mem_drop hr)
  · intro i hi
    show (gt (l.L.drop (v - l.start).toNat) i).lsn = v + i
    rw [gt_drop, h.hl.lsn _ (by have hi : i < (l.L.drop (v - l.start).toNat).length := hi; rw [hdl] at hi; omega)]
    omega
  · refine ⟨l.epoch, ?_, by omega, by omega, ?_, ?_⟩
    · show headV (gt (write1 d (headAt l.j l.node) (headS v l.epoch)).S (headAt l.j l.node).toNat) = _
      have := hrb 1
      have := hhr 1
      rw [hS, gt_set _ _ _ _ (by omega), if_pos rfl]
      exact headV_headS ⟨by omega, by omega⟩ hep
    · show max1 l.epoch ≤ l.epoch
      unfold max1; split <;> omega
    · exact chain_const (e := l.epoch) (by unfold max1; split <;> omega) hee
  · exact fun r hr => h.own r (List.mem_of_mem_drop hr)
  · intro i hi
    rw [hkF] at hi
    show at1 _ l.j l.node (v + i) = half (gt (l.L.drop (v - l.start).toNat) i) 0 ∧ at2 _ l.j l.node (v + i) = half (gt (l.L.drop (v - l.start).toNat) i) 1
    rw [(hat _).1, (hat _).2, gt_drop]
    have := h.std ((v - l.start).toNat + i) (by omega)
    rw [show l.start + (((v - l.start).toNat + i : Nat) : Int) = v + i by omega] at this
    exact this
  · intro m r hr
    have hr : getM (at1 (write1 d (headAt l.j l.node) (headS v l.epoch)) l.j l.node m) (at2 (write1 d (headAt l.j l.node) (headS v l.epoch)) l.j l.node m) = some r := hr
    rw [(hat m).1, (hat m).2] at hr
    exact h.old m r hr
def log0 (j : Jb) (n : Int) : Lo := ⟨j, n, 1, 1, 0, []⟩
theorem devN_ok {j : Jb} (hj : MayJ j) : DOK (devN j) := by
  have := sects_bd hj
  have := hj.n
  exact devI_ok (by omega) (by omega) (by omega)
theorem devN_S {j : Jb} (i : Nat) : gt (devN j).S i = zeroS := by
  show gt (List.replicate _ zeroS) i = zeroS
  unfold gt
  rw [List.getElem?_replicate]
  split <;> rfl
theorem new_inv {j : Jb} (hj : MayJ j) {n : Int} (hn : 0 ≤ n ∧ n < j.nodes) : Inv (devN j) (log0 j n) := by
  have hb := sects_bd hj
  have hjn := hj.n
  refine ⟨devN_ok hj, ⟨hj, hn, by show (1 : Int) ≤ 1 ∧ (1 : Int) ≤ 2147483647; omega, by show (1 : Int) ≤ 1 ∧ (1 : Int) ≤ 2147483647; omega, by show (1 : Int) - 1 ≤ 0 ∧ (0 : Int) < 1 + (([] : List Rec).length : Int); simp, by show ((([] : List Rec).length : Nat) : Int) ≤ j.log ∧ (1 : Int) + (([] : List Rec).length : Int) ≤ _; have := hj.l; simp; omega, (fun r hr => by cases hr), (fun r hr => by cases hr), (fun i hi => by cases hi)⟩, ?_, hn.2, ?_, rfl, ?_, (fun r hr => by cases hr), (fun i hi => ?_), (fun m r hr => ?_)⟩
  · show sects j = ((sects j).toNat : Int); omega
  · show (1 : Int) = (if n.toNat < j.nodes.toNat then 1 else 0)
    rw [if_pos (by omega)]
  · refine ⟨0, ?_, by omega, by omega, ?_, trivial⟩
    · rw [devN_S]; exact headV_zero
    · show max1 0 ≤ 1; unfold max1; simp
  · have : kF (log0 j n) = 0 := rfl
    omega
  · unfold at1 at2 at hr
    rw [devN_S, devN_S, getM_zero] at hr
    cases hr
end Go.Proofs.Ytpennfojidpmeaa
namespace Go.Proofs.Ytpennfojidpmeaa
open Go.Sx
set_option maxRecDepth 20000
theorem asIxaM {d : Den} {t el : TypeId} {n len c a i r b off z : Nat} {fk : FloatKind} {k : IntKind} {q : Int} (hu : Program.underlying Try.prog t = some (.slice el)) (hn : sizeB Try.prog el = some n) (ho : d.o a = mSl b len c z) (h0 : 1 ≤ len) (hv : d.v i = .int k q) (h1 : 0 ≤ q) (h2 : q < len)
    (hr : d.o r = .pointer (some ⟨b, off, none⟩)) (hoff : off = 0 + q.toNat * n) : @AK.Ok d Try.prog (.ixa t (.chan (some a)) (.float fk i)) (.chan (some r)) := asIxa hu hn (ho.trans (mSl_pos h0)) hv h1 h2 hr hoff
def apM (l : Lo) (p : Int) (v : Ver) : Lo := { l with L := l.L ++ [⟨l.node, l.epoch, l.start + l.L.length, p, v.psn, v.body⟩] }
theorem append_E {l : Lo} (hl : LOK l) {p : Int} {v : Ver} (h : ApOK l p v) (hr : roomM l ≠ 0) : Ctr Try.prog 20 [pt 2 0, iv p, .agg (verV v).toArray] (logR l 3 false) (.tuple #[iv (l.start + l.L.length), iv 0]) [(2, .row 62 (.lst (logRow (apM l p v) 4)) false), (3, .dead), (4, rowOr 47 (enc recL (apM l p v).L) false), (0, .dead)] :=
  Ctr.reB (Ctr.addDead (append_ok hl h hr) 3 rfl) fun i => match i with
    | 0 => rfl | 1 => rfl | 2 => rfl | 3 => rfl | 4 => rfl | _ + 5 => rfl
theorem cut_E {l : Lo} (hl : LOK l) {d : Dv} (hd : DOK d) {v : Int} (hv : l.start ≤ v ∧ v ≤ l.flushed + 1) (hs : sects l.j = d.n) (hnd : l.node < d.nd) (hlo : LeftOK d) (he : l.epoch = d.e l.node.toNat) : Ctr Try.prog 18 [pt 2 0, iv v] (devH d false ++ logA l 3 false) (iv 0) (devH (write1 d (headAt l.j l.node) (headS v l.epoch)) false ++ [(2, .row 62 (.lst (logRow (cutM l v) 4)) false), (3, .dead), (4, rowOr 47 (enc recL (cutM l v).L) false)]) :=
  Ctr.reB (Ctr.addDead (cut_ok hl hd hv hs hnd hlo he) 3 rfl) fun i => match i with
    | 0 => rfl | 1 => rfl | 2 => rfl | 3 => rfl | 4 => rfl | _ + 5 => rfl
def fixN (d r : Dv) : Dv := ⟨d.n, r.S, r.e, r.nd, r.cut, r.left, r.lost, r.done⟩
def flW (l : Lo) (d : Dv) : Dv := fixN d (flushD l (l.L.drop (kF l)) d)
def flL (l : Lo) : Lo := { l with flushed := l.start + l.L.length - 1 }
theorem flushD_n (l : Lo) : ∀ (rs : List Rec) (d : Dv), (flushD l rs d).n = d.n
  | [], _ => rfl
  | _ :: rs, _ => flushD_n l rs _
theorem flW_eq (l : Lo) (d : Dv) : flW l d = flushD l (l.L.drop (kF l)) d := by
  have h := flushD_n l (l.L.drop (kF l)) d
  unfold flW fixN
  rw [← h]
theorem flush_E {l : Lo} (hl : LOK l) {d : Dv} (hd : DOK d) (hlo : LeftOK d) (hdn : d.done ≤ 800000000) (hs : sects l.j = d.n) (hnd : l.node < d.nd) (he : kF l < l.L.length → l.epoch = d.e l.node.toNat) : Ctr Try.prog 17 [pt 2 0] (devH d false ++ logA l 3 false) (iv 0) (devH (flW l d) false ++ logA (flL l) 3 false) := by
  rw [flW_eq]
  exact flush_ok hl hd hlo hdn hs hnd he
end Go.Proofs.Ytpennfojidpmeaa
namespace Go.Proofs.Ytpennfojidpmeaa
open Go.Sx
set_option maxRecDepth 20000
theorem open_new {j : Jb} (hj : MayJ j) {n : Int} (hn : 0 ≤ n ∧ n < j.nodes) : Ctr Try.prog 15 [pt 0 0, jobV j, iv n, iv 1] (devH (devN j) false) (.tuple #[pt 2 0, iv 0]) (devH (devN j) false ++ logA (log0 j n) 3 false) := by
  have h := new_inv hj hn
  obtain ⟨e', q1, q2, q3, _, q4⟩ := h.head
  have ho := open_ok h.hd hj h.hs hn (s := 1) (ep := 1) ⟨Int.le_refl _, by decide⟩ ⟨Int.le_refl _, by decide⟩ ⟨q2, q3⟩ q1
  have hr := read_inv h q4
  have hr : scanL (devN j) j n j.log.toNat 1 (max1 e') = [] := hr
  rw [hr] at ho
  exact ho
end Go.Proofs.Ytpennfojidpmeaa
namespace Go.Proofs.Ytpennfojidpmeaa
open Go.Sx
set_option maxRecDepth 20000
abbrev oa (id n c : Nat) : OV := .m id n c 2
theorem jmayR_f {j : Jb} (hj : ¬ MayJ j) : Ctr Try.prog 23 [jobV j] [] (.bool false) [] := by
  · by_cases h0 : ((j.nodes) : Int) ≥ (2)
    · by_cases h1 : ((j.nodes) : Int) ≤ (8)
      · by_cases h2 : ((j.pages) : Int) ≥ (1)
        · by_cases h3 : ((j.pages) : Int) ≤ (16)
          · by_cases h4 : ((j.frames) : Int) ≥ (1)
            · by_cases h5 : ((j.frames) : Int) ≤ (16)
              · by_cases h6 : ((j.log) : Int) ≥ (2)
                · by_cases h7 : ((j.log) : Int) ≤ (64)
                  · by_cases h8 : ((j.pat) : Int) ≥ (2)
                    · by_cases h9 : ((j.pat) : Int) ≤ (100)
                      · exact absurd (show MayJ j from ⟨⟨by omega, by omega⟩, ⟨by omega, by omega⟩, ⟨by omega, by omega⟩, ⟨by omega, by omega⟩, ⟨by omega, by omega⟩⟩) hj
                      · skip
                        exact pth (denQ (jobL j) (by kernel_rfl) [] rfl [] no_rows) ⟨[(.bin .geq 3 (sv 0) (.int .i64 2), .bool true), (.bin .leq 3 (sv 0) (.int .i64 8), .bool true), (.bin .geq 3 (sv 1) (.int .i64 1), .bool true), (.bin .leq 3 (sv 1) (.int .i64 16), .bool true), (.bin .geq 3 (sv 2) (.int .i64 1), .bool true), (.bin .leq 3 (sv 2) (.int .i64 16), .bool true), (.bin .geq 3 (sv 3) (.int .i64 2), .bool true), (.bin .leq 3 (sv 3) (.int .i64 64), .bool true), (.bin .geq 3 (sv 4) (.int .i64 2), .bool true), (.bin .leq 3 (sv 4) (.int .i64 100), .bool false)], [], []⟩ [] ⟨qT ((j.nodes) ≥ (2)) (by omega), qT ((j.nodes) ≤ (8)) (by omega), qT ((j.pages) ≥ (1)) (by omega), qT ((j.pages) ≤ (16)) (by omega), qT ((j.frames) ≥ (1)) (by omega), qT ((j.frames) ≤ (16)) (by omega), qT ((j.log) ≥ (2)) (by omega), qT ((j.log) ≤ (64)) (by omega), qT ((j.pat) ≥ (2)) (by omega), qF ((j.pat) ≤ (100)) (by omega), trivial⟩ trivial trivial trivial 0 ([]) [vA 0 5] []
                    · skip
                      exact pth (denQ (jobL j) (by kernel_rfl) [] rfl [] no_rows) ⟨[(.bin .geq 3 (sv 0) (.int .i64 2), .bool true), (.bin .leq 3 (sv 0) (.int .i64 8), .bool true), (.bin .geq 3 (sv 1) (.int .i64 1), .bool true), (.bin .leq 3 (sv 1) (.int .i64 16), .bool true), (.bin .geq 3 (sv 2) (.int .i64 1), .bool true), (.bin .leq 3 (sv 2) (.int .i64 16), .bool true), (.bin .geq 3 (sv 3) (.int .i64 2), .bool true), (.bin .leq 3 (sv 3) (.int .i64 64), .bool true), (.bin .geq 3 (sv 4) (.int .i64 2), .bool false)], [], []⟩ [] ⟨qT ((j.nodes) ≥ (2)) (by omega), qT ((j.nodes) ≤ (8)) (by omega), qT ((j.pages) ≥ (1)) (by omega), qT ((j.pages) ≤ (16)) (by omega), qT ((j.frames) ≥ (1)) (by omega), qT ((j.frames) ≤ (16)) (by omega), qT ((j.log) ≥ (2)) (by omega), qT ((j.log) ≤ (64)) (by omega), qF ((j.pat) ≥ (2)) (by omega), trivial⟩ trivial trivial trivial 0 ([]) [vA 0 5] []
                  · skip
                    exact pth (denQ (jobL j) (by kernel_rfl) [] rfl [] no_rows) ⟨[(.bin .geq 3 (sv 0) (.int .i64 2), .bool true), (.bin .leq 3 (sv 0) (.int .i64 8), .bool true), (.bin .geq 3 (sv 1) (.int .i64 1), .bool true), (.bin .leq 3 (sv 1) (.int .i64 16), .bool true), (.bin .geq 3 (sv 2) (.int .i64 1), .bool true), (.bin .leq 3 (sv 2) (.int .i64 16), .bool true), (.bin .geq 3 (sv 3) (.int .i64 2), .bool true), (.bin .leq 3 (sv 3) (.int .i64 64), .bool false)], [], []⟩ [] ⟨qT ((j.nodes) ≥ (2)) (by omega), qT ((j.nodes) ≤ (8)) (by omega), qT ((j.pages) ≥ (1)) (by omega), qT ((j.pages) ≤ (16)) (by omega), qT ((j.frames) ≥ (1)) (by omega), qT ((j.frames) ≤ (16)) (by omega), qT ((j.log) ≥ (2)) (by omega), qF ((j.log) ≤ (64)) (by omega), trivial⟩ trivial trivial trivial 0 ([]) [vA 0 5] []
                · skip
                  exact pth (denQ (jobL j) (by kernel_rfl) [] rfl [] no_rows) ⟨[(.bin .geq 3 (sv 0) (.int .i64 2), .bool true), (.bin .leq 3 (sv 0) (.int .i64 8), .bool true), (.bin .geq 3 (sv 1) (.int .i64 1), .bool true), (.bin .leq 3 (sv 1) (.int .i64 16), .bool true), (.bin .geq 3 (sv 2) (.int .i64 1), .bool true), (.bin .leq 3 (sv 2) (.int .i64 16), .bool true), (.bin .geq 3 (sv 3) (.int .i64 2), .bool false)], [], []⟩ [] ⟨qT ((j.nodes) ≥ (2)) (by omega), qT ((j.nodes) ≤ (8)) (by omega), qT ((j.pages) ≥ (1)) (by omega), qT ((j.pages) ≤ (16)) (by omega), qT ((j.frames) ≥ (1)) (by omega), qT ((j.frames) ≤ (16)) (by omega), qF ((j.log) ≥ (2)) (by omega), trivial⟩ trivial trivial trivial 0 ([]) [vA 0 5] []
              · skip
                exact pth (denQ (jobL j) (by kernel_rfl) [] rfl [] no_rows) ⟨[(.bin .geq 3 (sv 0) (.int .i64 2), .bool true), (.bin .leq 3 (sv 0) (.int .i64 8), .bool true), (.bin .geq 3 (sv 1) (.int .i64 1), .bool true), (.bin .leq 3 (sv 1) (.int .i64 16), .bool true), (.bin .geq 3 (sv 2) (.int .i64 1), .bool true), (.bin .leq 3 (sv 2) (.int .i64 16), .bool false)], [], []⟩ [] ⟨qT ((j.nodes) ≥ (2)) (by omega), qT ((j.nodes) ≤ (8)) (by omega), qT ((j.pages) ≥ (1)) (by omega), qT ((j.pages) ≤ (16)) (by omega), qT ((j.frames) ≥ (1)) (by omega), qF ((j.frames) ≤ (16)) (by omega), trivial⟩ trivial trivial trivial 0 ([]) [vA 0 5] []
            · skip
              exact pth (denQ (jobL j) (by kernel_rfl) [] rfl [] no_rows) ⟨[(.bin .geq 3 (sv 0) (.int .i64 2), .bool true), (.bin .leq 3 (sv 0) (.int .i64 8), .bool true), (.bin .geq 3 (sv 1) (.int .i64 1), .bool true), (.bin .leq 3 (sv 1) (.int .i64 16), .bool true), (.bin .geq 3 (sv 2) (.int .i64 1), .bool false)], [], []⟩ [] ⟨qT ((j.nodes) ≥ (2)) (by omega), qT ((j.nodes) ≤ (8)) (by omega), qT ((j.pages) ≥ (1)) (by omega), qT ((j.pages) ≤ (16)) (by omega), qF ((j.frames) ≥ (1)) (by omega), trivial⟩ trivial trivial trivial 0 ([]) [vA 0 5] []
          · skip
            exact pth (denQ (jobL j) (by kernel_rfl) [] rfl [] no_rows) ⟨[(.bin .geq 3 (sv 0) (.int .i64 2), .bool true), (.bin .leq 3 (sv 0) (.int .i64 8), .bool true), (.bin .geq 3 (sv 1) (.int .i64 1), .bool true), (.bin .leq 3 (sv 1) (.int .i64 16), .bool false)], [], []⟩ [] ⟨qT ((j.nodes) ≥ (2)) (by omega), qT ((j.nodes) ≤ (8)) (by omega), qT ((j.pages) ≥ (1)) (by omega), qF ((j.pages) ≤ (16)) (by omega), trivial⟩ trivial trivial trivial 0 ([]) [vA 0 5] []
        · skip
          exact pth (denQ (jobL j) (by kernel_rfl) [] rfl [] no_rows) ⟨[(.bin .geq 3 (sv 0) (.int .i64 2), .bool true), (.bin .leq 3 (sv 0) (.int .i64 8), .bool true), (.bin .geq 3 (sv 1) (.int .i64 1), .bool false)], [], []⟩ [] ⟨qT ((j.nodes) ≥ (2)) (by omega), qT ((j.nodes) ≤ (8)) (by omega), qF ((j.pages) ≥ (1)) (by omega), trivial⟩ trivial trivial trivial 0 ([]) [vA 0 5] []
      · skip
        exact pth (denQ (jobL j) (by kernel_rfl) [] rfl [] no_rows) ⟨[(.bin .geq 3 (sv 0) (.int .i64 2), .bool true), (.bin .leq 3 (sv 0) (.int .i64 8), .bool false)], [], []⟩ [] ⟨qT ((j.nodes) ≥ (2)) (by omega), qF ((j.nodes) ≤ (8)) (by omega), trivial⟩ trivial trivial trivial 0 ([]) [vA 0 5] []
    · skip
      exact pth (denQ (jobL j) (by kernel_rfl) [] rfl [] no_rows) ⟨[(.bin .geq 3 (sv 0) (.int .i64 2), .bool false)], [], []⟩ [] ⟨qF ((j.nodes) ≥ (2)) (by omega), trivial⟩ trivial trivial trivial 0 ([]) [vA 0 5] []
end Go.Proofs.Ytpennfojidpmeaa
namespace Go.Proofs.Ytpennfojidpmeaa
open Go.Sx
set_option maxRecDepth 20000
theorem eqR_refl (r : Rec) : eqR r r = true := by
  unfold eqR
  simp only [beq_self_eq_true, Bool.true_and, Bool.and_true]
  exact eqN_of fun _ _ _ => rfl
def Good (v : Ver) : Prop := Byte v.body ∧ ∀ i, 96 ≤ i → v.body i = 0
end Go.Proofs.Ytpennfojidpmeaa
namespace Go.Proofs.Ytpennfojidpmeaa
open Go.Sx Go.Deep Go.WideShapes
set_option maxRecDepth 20000
theorem fit_cap (e : EI) {cap : Nat} (h : e.cap = cap) : capOf e (if cap < HALF then cap else INF) = cap := by
  unfold capOf
  by_cases hc : cap < HALF
  · rw [if_pos hc, if_pos hc]
  · rw [if_neg hc, if_neg (by decide +kernel), Nat.sub_self, Nat.sub_zero]; exact h
theorem add_none {a : Addr} (h : a.spot = none) (n : Nat) : a.add n = ⟨a.block, a.off + n, none⟩ := by
  unfold Addr.add
  by_cases h0 : n = 0
  · rw [if_pos h0]; subst h0; cases a; simp only at h; subst h; rfl
  · rw [if_neg h0]
theorem cell_at {w : World} {a : Addr} {v : Value} (h : w.cell? a = some v) : a.spot = none ∧ ∃ cells T fz, w.heap[a.block]? = some (.cells cells T fz) ∧ cells[a.off]? = some v := by
  unfold World.cell? at h
  split at h
  · rename_i c T fz hc
    split at h
    · cases h
    · rename_i hs
      refine ⟨?_, c, T, fz, hc, h⟩
      cases ha : a.spot with
      | none => rfl
      | some x => rw [ha] at hs; exact absurd rfl hs
  · cases h
theorem bodL_eq (b : Nat → Int) : bodL b = (List.range 96).map fun i => .int .u8 (b i) := by rfl
theorem bodL_get (b : Nat → Int) {i : Nat} (h : i < 96) : (bodL b)[i]? = some (.int .u8 (b i)) := by
  rw [bodL_eq, List.getElem?_map, List.getElem?_range h]; rfl
theorem wf_u8 {n : Int} (h : (Lit.int .u8 n).wf = true) : 0 ≤ n ∧ n < 256 := by
  simp [Lit.wf, IntKind.min, IntKind.max, IntKind.signed, IntKind.bits] at h
  omega
section
variable {H : Type} {en : TypeId × Value → H} {W : World} {base : Nat} {sp : Nat → Bool} {hd : Bool} {fuel : Nat} {cs : List Value} {x : DataW H × List MemPlace}
theorem ver_of (h : DataW.trod en Try.prog W base sp hd fuel 41 cs = some x) : ∃ v : Ver, Good v ∧ cs = verV v := by
  obtain ⟨ys, n, _, _, hlen, hyl, hf⟩ := DataW.trod_struct Try.underlying41 h
  have hlen : cs.length = 97 := hlen.trans (by kernel_rfl)
  have hyl : ys.length = 2 := hyl
  have h0 := hf 0 _ rfl
  have h1 := hf 1 _ rfl
  obtain ⟨k0, e0, _, w0⟩ := DataW.trod_int Try.underlying2 (h0.trans (List.getElem?_eq_getElem (by omega)))
  obtain ⟨zs, n2, _, _, _, hzl, hz⟩ := DataW.trod_array Try.underlying39 (h1.trans (List.getElem?_eq_getElem (by omega)))
  have e0 : (cs.drop 0).take 1 = [.int .i64 k0] := e0
  have hb : ∀ i, i < 96 → ∃ b, cs[1 + i]? = some (.int .u8 b) ∧ 0 ≤ b ∧ b < 256 := fun i hi => by
    obtain ⟨b, eb, _, wb⟩ := DataW.trod_int Try.underlying5 ((hz i hi).trans (List.getElem?_eq_getElem (by omega)))
    have e1 : (((cs.drop 1).take 96).drop (i * 1)).take 1 = [.int .u8 b] := eb
    have e2 := congrArg (fun l : List Value => l[0]?) e1
    simp only [List.getElem?_take, List.getElem?_drop, Nat.mul_one, Nat.add_zero, List.getElem?_cons_zero] at e2
    rw [if_pos (by omega), if_pos hi] at e2
    exact ⟨b, e2, wf_u8 wb⟩
  let bd : Nat → Int := fun i => if i < 96 then (match cs[1 + i]? with
    | some (.int _ b) => b
    | _ => 0) else 0
  have hbd : ∀ i, i < 96 → cs[1 + i]? = some (.int .u8 (bd i)) ∧ 0 ≤ bd i ∧ bd i < 256 := fun i hi => by
    obtain ⟨b, h1, h2⟩ := hb i hi
    have : bd i = b := by show (if i < 96 then _ else _) = b; rw [if_pos hi, h1]
    rw [this]
    exact ⟨h1, h2⟩
  refine ⟨⟨k0, bd⟩, ⟨fun i => ?_, fun i hi => if_neg (by omega)⟩, ?_⟩
  · by_cases hi : i < 96
    · exact (hbd i hi).2
    · have : bd i = 0 := if_neg hi
      show 0 ≤ bd i ∧ bd i < 256
      rw [this]; decide
  · apply List.ext_getElem?
    intro k
    cases k with
    | zero =>
      have e2 := congrArg (fun l : List Value => l[0]?) e0
      simp only [List.getElem?_take, List.getElem?_drop, Nat.add_zero, List.getElem?_cons_zero] at e2
      rw [if_pos (by omega)] at e2
      exact e2
    | succ k =>
      show _ = (bodL bd)[k]?
      by_cases hk : k < 96
      · rw [bodL_get bd hk, Nat.add_comm]
        exact (hbd k hk).1
      · rw [List.getElem?_eq_none (by omega), List.getElem?_eq_none (by show 96 ≤ k; omega)]
theorem job_of (h : DataW.trod en Try.prog W base sp hd fuel 24 cs = some x) : ∃ j : Jb, cs = jobL j := by
  obtain ⟨ys, n, _, _, hlen, hyl, hf⟩ := DataW.trod_struct Try.underlying24 h
  have hlen : cs.length = 5 := hlen.trans (by kernel_rfl)
  have hyl : ys.length = 5 := hyl
  match cs, hlen with
  | [c0, c1, c2, c3, c4], _ =>
    obtain ⟨k0, e0, _⟩ := DataW.trod_int Try.underlying3 ((hf 0 _ rfl).trans (List.getElem?_eq_getElem (by omega)))
    obtain ⟨k1, e1, _⟩ := DataW.trod_int Try.underlying3 ((hf 1 _ rfl).trans (List.getElem?_eq_getElem (by omega)))
    obtain ⟨k2, e2, _⟩ := DataW.trod_int Try.underlying3 ((hf 2 _ rfl).trans (List.getElem?_eq_getElem (by omega)))
    obtain ⟨k3, e3, _⟩ := DataW.trod_int Try.underlying3 ((hf 3 _ rfl).trans (List.getElem?_eq_getElem (by omega)))
    obtain ⟨k4, e4, _⟩ := DataW.trod_int Try.underlying3 ((hf 4 _ rfl).trans (List.getElem?_eq_getElem (by omega)))
    have f0 : [c0] = [.int .i64 k0] := e0
    have f1 : [c1] = [.int .i64 k1] := e1
    have f2 : [c2] = [.int .i64 k2] := e2
    have f3 : [c3] = [.int .i64 k3] := e3
    have f4 : [c4] = [.int .i64 k4] := e4
    simp only [List.cons.injEq, and_true] at f0 f1 f2 f3 f4
    subst f0 f1 f2 f3 f4
    exact ⟨⟨k0, k1, k2, k3, k4⟩, rfl⟩
end
end Go.Proofs.Ytpennfojidpmeaa
namespace Go.Proofs.Ytpennfojidpmeaa
open Go.Sx
set_option maxRecDepth 20000
def A128 : HL := [(1, .row 43 (.lst [ch 0]) true), (2, .mrow 47 0 true)]
def B128 (L : List Rec) : HL := [(1, .row 43 (.lst [mSl 2 L.length INF 1]) true), (2, rowOr 47 (enc recL L) true)]
noncomputable abbrev d128 (L : List Rec) (k : Nat) : Den := denQ ([iv (k : Int), iv (L.length : Int)] ++ recL (gt L k) ++ [iv ((k : Int) + 1)]) (by kernel_rfl) [ow 2 L.length INF, .v (.pointer (some ⟨2, 0 + ((k : Int)).toNat * 101, none⟩))] rfl [enc recL L] (PL.cons (enc_plain recL_plain _) no_rows)
def f128 : FV := [(0, .func (.yield 0) #[] #[]), (5, ch 0), (6, sv 1), (7, sv 0)]
def K128 (L : List Rec) (E0 : Env) (W : World) : Prop := HR0 Try.prog W (fun _ => False) E0 (ofL (B128 L)) W
def V128 (L : List Rec) (k : Nat) : FV := [(0, .func (.yield 0) #[] #[]), (5, mSl 2 L.length INF 1), (6, iv (L.length : Int)), (7, iv (k : Int))]
theorem rec_x (L : List Rec) (k : Nat) : (recL (gt L k)).all plainS = true := recL_plain _
theorem iter128 {L : List Rec} (hL : L.length ≤ 1000) {E0 : Env} {lb : Array Value} (hlb : ∀ (d : Den) (E : Env), (envTo (idR A128) E0).le E → @LR d E [pt 1 0] lb.toList) : Iter Try.prog 128 lb L.length (fun k => .agg (recL (gt L k)).toArray) (K128 L E0) := by
  refine iter_leaf (P := Try.prog) mixed (gf := 128) (by kernel_rfl) (xs := fun k => recL (gt L k)) (rec_x L) (dL := d128 L) (A := A128) (B := B128 L) (E0 := E0) (lb := lb) (lbA := [pt 1 0]) (fvH := f128) (fvM := f128) (kH := hd 128 0) (nH := 16) (cH := 3) (Nf := 200) (m0 := 4) (m1 := 9) (p := 2) (m2 := 4) (m3 := 5) (m4 := 7)
    (asmS := ⟨[(.len 43 (ch 0), sv 1)], [], []⟩)
    (asmA := ⟨[(.bin .lss 3 (sv 0) (sv 1), .bool true), (.ixa 43 (ch 0) (sv 0), ch 1), (.bin .add 3 (sv 0) (iv 1), sv 103)], [⟨47, 1, 2, 0, vA 2 101⟩], []⟩)
    (asmE := ⟨[(.bin .lss 3 (sv 0) (sv 1), .bool false)], [], []⟩)
    ⟨⟨asLen u43 rfl (by kernel_rfl), trivial⟩, trivial, trivial⟩
    (fun k hk => ⟨⟨qT ((k : Int) < (L.length : Int)) (by omega), asIxaM u43 z47 rfl (by omega) rfl (by omega) (by omega) rfl rfl, aq (.int .i64 ((k : Int) + 1)) (.int .i64 (IntKind.i64.wrap ((k : Int) + 1))) (wVi64 ((k : Int) + 1) (by omega) (by omega)), trivial⟩, ⟨ldE recL_len a47 z47 (by omega) rfl rfl (by kernel_rfl), trivial⟩, trivial⟩)
    ⟨⟨qF ((L.length : Int) < (L.length : Int)) (by omega), trivial⟩, trivial, trivial⟩
    rfl (by kernel_rfl) (fun k _ => by kernel_rfl) ?_ ?_ hlb (by kernel_rfl) (by kernel_rfl) (fun k hk => ⟨V128 L k, ⟨hd 128 0, .normal, 16, (0, .dead) :: B128 L, V128 L (k + 1)⟩, by kernel_rfl, by kernel_rfl, by kernel_rfl⟩) (by kernel_rfl)
  · intro h
    cases L with
    | nil => exact absurd h (Nat.lt_irrefl 0)
    | cons x L => rfl
  · rfl
noncomputable abbrev d73 (L : List Rec) (k : Nat) : Den := denQ (recL (gt L k)) (by kernel_rfl) [ow 2 L.length INF] rfl [enc recL L] (PL.cons (enc_plain recL_plain _) no_rows)
def yf : Value := .func (.yield 0) #[] #[]
def A73 : HL := [(0, .dead), (1, .row 43 (.lst [ch 0]) true), (2, .mrow 47 0 true), (3, .row 135 (.lst [yf]) true), (4, .row 43 (.lst [ch 0]) true)]
def B73 (L : List Rec) : HL := [(0, .dead), (1, .row 43 (.lst [mSl 2 L.length INF 1]) true), (2, rowOr 47 (enc recL L) true), (3, .row 135 (.lst [yf]) true), (4, .row 43 (.lst [mSl 2 L.length INF 1]) true)]
def f73 : FV := [(2, pt 3 0), (5, .func (.func 128) #[] #[pt 4 0])]
def A73b : HL := [(0, .dead), (3, .row 135 (.lst [yf]) true), (5, .dead), (6, .row 47 (.lst (svs 0 101)) true)]
def B73b (L : List Rec) (k : Nat) : HL := [(0, .dead), (3, .row 135 (.lst [yf]) true), (5, .dead), (6, .row 47 (.lst (recL (gt L k))) true)]
def f73b : FV := [(2, pt 3 0), (3, pt 6 0)]
theorem iter73 {L : List Rec} (hL : L.length ≤ 1000) {E0 : Env} {lb : Array Value} (hlb : ∀ (d : Den) (E : Env), (envTo (idR A128) E0).le E → @LR d E [pt 1 0] lb.toList) : Iter Try.prog 73 lb L.length (fun k => .agg (recL (gt L k)).toArray) (K128 L E0) := by
  refine iter_nest (P := Try.prog) mixed (gf := 73) (gi := 128) (by kernel_rfl) (by kernel_rfl) (xs := fun k => recL (gt L k)) (rec_x L) (dS := d73 L 0) (dR := d73 L) (A := A128) (A2y := A73) (A3 := A73b) (B := B128 L) (B2 := B73 L) (E0 := E0) (lb := lb) (lbA := [pt 1 0]) (lbI := #[pt 4 0]) (fvR := f73) (fvA := f73b) (V := f73) (b := 0) (nR := 11) (cR := 6) (cA := 7) (Nf := 200) (m0 := 5) (m1 := 1) (m2 := 2) (p := 2) (m3 := 2) (m4 := 2) (y := 5)
    (asmS := ⟨[], [], []⟩) (asmR := ⟨[], [], []⟩) (entsS := []) (gop := (rng Try.prog 73 0).1) (ps := (rng Try.prog 73 0).2.1) (assign := (rng Try.prog 73 0).2.2.1) (body := (rng Try.prog 73 0).2.2.2.1) (own := [3, 4]) (τ := [(0, 0), (1, 1), (2, 2), (6, 3), (7, 4)]) (τA := [(0, 0), (3, 3), (5, 5), (6, 6)]) (ros := [6, 7]) (rosA := [6]) (elem := vA 0 101)
    ⟨trivial, trivial, trivial, trivial⟩ (fun _ _ => ⟨trivial, trivial, trivial⟩) rfl (by kernel_rfl) (by kernel_rfl) rfl hlb (by kernel_rfl) (fun k _ => by kernel_rfl) (fun k _ => by kernel_rfl) (by kernel_rfl) ?_ ?_ (by decide) (by kernel_rfl) (fun c h => by kernel_rfl) (fun k hk => ⟨f73b, B73b L k, by kernel_rfl, by kernel_rfl, by kernel_rfl⟩)
    (by kernel_rfl) (by kernel_rfl) rfl rfl ⟨by decide, by decide⟩ rfl (by kernel_rfl) ?_
  · cases L with
    | nil => rfl
    | cons x L => rfl
  · intro hN i o h
    have hL2 : ∃ x M, L = x :: M := by
      cases L with
      | nil => exact absurd hN (Nat.lt_irrefl 0)
      | cons x M => exact ⟨x, M, rfl⟩
    obtain ⟨x, M, rfl⟩ := hL2
    have hm := lkL_mem h
    simp only [B73, List.mem_cons, List.not_mem_nil, or_false, Prod.mk.injEq] at hm
    rcases hm with ⟨rfl, rfl⟩ | ⟨rfl, rfl⟩ | ⟨rfl, rfl⟩ | ⟨rfl, rfl⟩ | ⟨rfl, rfl⟩
    · exact .inl rfl
    · exact .inr (.inl ⟨rfl, rfl⟩)
    · exact .inr (.inl ⟨rfl, rfl⟩)
    · exact .inr (.inr ⟨by decide, rfl⟩)
    · exact .inr (.inr ⟨by decide, rfl⟩)
  · intro E2 w lb' hlr hr
    obtain ⟨e, he, hvs⟩ : ∃ e : EI, (envTo (idR A73) E2) 4 = some e ∧ lb'.toList = [.pointer (some ⟨e.blk, e.off + 0, none⟩)] := by
      obtain ⟨v', vs, hvs, hv, hl⟩ := @LR.cons_inv (d73 L 0) _ _ _ _ hlr
      have := @LR.nil_inv (d73 L 0) _ _ hl
      subst this
      cases hv with
      | ptr h => exact ⟨_, h, hvs⟩
    refine ⟨K128 L (envOf [(4, 1), (2, 2)] (envTo (idR A73) E2)), iter128 hL (fun d E hle => ?_), fun A' h => ?_⟩
    · rw [hvs]
      exact @LR.cons d _ _ _ _ _ (@VR.ptr d _ _ _ _ (hle _ _ he)) (@LR.nil d _)
    · exact @HR.cv Try.prog A' (fun _ => False) _ (ofL A73) A' (d73 L 0) (@HR.vc Try.prog A' (fun _ => False) E2 A' (d73 L 0) A73 (B73 L) h (by kernel_rfl) (by kernel_rfl)) [(4, 1), (2, 2)] [] (B128 L) (by kernel_rfl) (by kernel_rfl)
end Go.Proofs.Ytpennfojidpmeaa
namespace Go.Proofs.Ytpennfojidpmeaa
open Go.Sx
set_option maxRecDepth 20000
theorem recs_ctr {l : Lo} (hL : l.L.length ≤ 1000) : Ctr Try.prog 29 [pt 2 0] (logR l 3 true) (.func (.func 73) #[] #[pt 4 0]) [(4, .row 43 (.lst [mSl 5 l.L.length INF 1]) false), (5, rowOr 47 (enc recL l.L) false), (0, .dead)] := by
  by_cases h0 : 1 ≤ l.L.length
  · have hne : enc recL l.L ≠ [] := fun h => by
      have := enc_len recL_len l.L
      rw [h] at this
      simp at this
      omega
    unfold logR logA logRow
    rw [mSl_pos h0, mSl_pos h0, rowOr_pos hne, rowOr_pos hne]
    have hclone := cloneR_ctr (S := l.L) (i := 0) (m := l.L.length) (cp := INF) h0 (by omega) (by unfold HALF; omega)
    exact pth (denQ (logC l) (by kernel_rfl) [.v (.slice (some ⟨3, 0, none⟩) l.L.length INF), .v (.slice (some ⟨5, 0, none⟩) l.L.length INF)] rfl [enc recL l.L, enc recL l.L] (PL.cons (enc_plain recL_plain _) (PL.cons (enc_plain recL_plain _) no_rows))) ⟨[], [], []⟩ [(68, [⟨[.chan (some 0)], 5, [], [⟨3, 1, true, .orow 47 0 true, .orow 47 0 true⟩], [(2, .orow 47 1 false)], .chan (some 1)⟩])] trivial trivial trivial ⟨oe hclone, trivial⟩ 4 ([(2, .row 62 (.lst (pt 0 0 :: (svs 0 9 ++ [ch 0]))) true), (3, .orow 47 0 true)] ++ [(0, .dead)]) [pt 2 0] [(4, 4), (5, 5), (0, 0)]
  · have hL0 : l.L = [] := List.eq_nil_of_length_eq_zero (by omega)
    unfold logR logA logRow
    rw [hL0]
    have h : Ctr Try.prog 29 [pt 2 0] ([(2, .row 62 (.lst (pt 0 0 :: (logC l ++ [mSl 3 ([] : List Rec).length INF 1]))) true), (3, rowOr 47 (enc recL []) true)] ++ [(0, .dead)]) (.func (.func 73) #[] #[pt 4 0]) [(4, .row 43 (.lst [mSl 5 ([] : List Rec).length INF 1]) false), (0, .dead)] := by
      exact pth (denQ (logC l) (by kernel_rfl) [] rfl [enc recL []] (PL.cons (enc_plain recL_plain _) no_rows)) ⟨[], [], []⟩ [(68, [⟨[.slice none 0 1], 5, [], [], [], .slice none 0 1⟩])] trivial trivial trivial ⟨oe cloneR_weak, trivial⟩ 4 ([(2, .row 62 (.lst (pt 0 0 :: (svs 0 9 ++ [.slice none 0 1]))) true), (3, .mrow 47 0 true)] ++ [(0, .dead)]) [pt 2 0] [(4, 4), (0, 0)]
    refine Ctr.reB (ctr_ghost h 5 47 false rfl rfl) fun i => ?_
    by_cases h4 : i = 4
    · subst h4; rfl
    · by_cases h5 : i = 5
      · subst h5; rfl
      · by_cases h0 : i = 0
        · subst h0; rfl
        · have e4 : Nat.beq 4 i = false := by cases hb : Nat.beq 4 i with | false => rfl | true => exact absurd (Nat.eq_of_beq_eq_true hb).symm h4
          have e5 : Nat.beq 5 i = false := by cases hb : Nat.beq 5 i with | false => rfl | true => exact absurd (Nat.eq_of_beq_eq_true hb).symm h5
          have e0 : Nat.beq 0 i = false := by cases hb : Nat.beq 0 i with | false => rfl | true => exact absurd (Nat.eq_of_beq_eq_true hb).symm h0
          simp only [lkL, List.cons_append, List.nil_append, e4, e5, e0, cond_false]
structure SegOK (d : Den) (asm : Asm) (ents : List (FuncId × List Entry)) : Prop where
  ok : @AllOk d Try.prog asm.l
  lds : @LdsOk d Try.prog asm.lds
  apps : @AppsOk d Try.prog asm.apps
  ents : @EntsOK d Try.prog ents
theorem sgJ {d : Den} (asm : Asm) (ents : List (FuncId × List Entry)) (hok : @AllOk d Try.prog asm.l) (hlds : @LdsOk d Try.prog asm.lds) (happs : @AppsOk d Try.prog asm.apps) (hent : @EntsOK d Try.prog ents) : SegOK d asm ents := ⟨hok, hlds, happs, hent⟩
theorem gJ (D d2 : Den) {d1 : Den} {asm : Asm} {ents : List (FuncId × List Entry)} (h : ∀ l, SegOK (D.wj l) asm ents) (m : Nat) (τ : Ren) (ros : List Nat) {g : FuncId} {res : Value} {k : List KI} {e : Exit} {fv : FV} {n c : Nat} {A1 : HL} {k2 : List KI} {e2 : Exit} {fv2 : FV} {n2 c2 : Nat} {A2 : HL}
    (hg : GoodJ d2 Try.prog g res (headJ k2 e2 fv2 n2 c2 A2)) (h1 : @snapJ d1 (idR A1) [] (fv.map (·.1)) (headJ k e fv n c A1) = @snapJ D (idR A1) [] (fv.map (·.1)) (headJ k e fv n c A1) := by kernel_rfl) (h2 : (@snapJ D (idR A1) [] (fv.map (·.1)) (headJ k e fv n c A1)).isSome = true := by kernel_rfl)
    (hb : (nodupB (A1.map (·.1)) && injB (idR A1)) = true := by kernel_rfl)
    (h3 : (ksteps (@Sx.rec asm Try.prog (tblE noTbl ents) 200) m (headJ k e fv n c A1)).bind (@snapJ D τ ros (fv2.map (·.1))) = @snapJ d2 (idR A2) [] (fv2.map (·.1)) (headJ k2 e2 fv2 n2 c2 A2) := by kernel_rfl) (h4 : (@snapJ d2 (idR A2) [] (fv2.map (·.1)) (headJ k2 e2 fv2 n2 c2 A2)).isSome = true := by kernel_rfl)
    (hb2 : (nodupB (A2.map (·.1)) && injB τ) = true := by kernel_rfl) : GoodJ d1 Try.prog g res (headJ k e fv n c A1) :=
  GoodJ.seg (d1 := d1) (d2 := D) mixed ⟨[], [], []⟩ [] (fun _ => trivial) (fun _ => trivial) (fun _ => trivial) (fun _ => trivial) (N := 200) (m := 0) (τ := idR A1) (ros := []) h1 h2 hb
    (GoodJ.seg (d1 := D) (d2 := d2) mixed asm ents (fun l => (h l).ok) (fun l => (h l).lds) (fun l => (h l).apps) (fun l => (h l).ents) h3 h4 hb2 hg)
theorem gR {d d2 : Den} {asm : Asm} {ents : List (FuncId × List Entry)} (h : ∀ l, SegOK (d.wj l) asm ents) (m2 : Nat) {A : HL} {fv : FV} {n c : Nat} {ps : List Tmp} {x : Value} {assign body : Code} (elem : Value) (y : Nat) (B : HL)
    (h1 : @cv d [] DEP elem = some x := by kernel_rfl) (h2 : lkL A y = none := by kernel_rfl)
    (h3 : (runR (@Sx.rec asm Try.prog (tblE noTbl ents) 200) 1 m2 assign body (Fr.puts ⟨ofV fv, n, some y, []⟩ ps [elem]) c ((ofL A).set y .dead)).bind (endR d (idR A)) = some B := by kernel_rfl)
    (h4 : @cvH d2 (idR A) [] (ofL A) (idR A) = some B := by kernel_rfl) (h5 : (injB (idR A) && A.all (fun p => match lkR (idR A) p.1 with
      | some a => Nat.beq a p.1
      | none => false)) = true := by kernel_rfl) : RoundOK d d2 Try.prog A fv n c ps x assign body :=
  ⟨⟨asm, ents, 200, 1, m2, idR A, elem, y, B, fun l => (h l).ok, fun l => (h l).lds, fun l => (h l).apps, fun l => (h l).ents, h1, h2, h3, h4, h5⟩⟩
structure Stp where
  kind : Int
  page : Int
  v : Ver
  n : Int
instance : Inhabited Stp := ⟨⟨0, 0, ⟨0, fun _ => 0⟩, 0⟩⟩
def stpL (s : Stp) : List Value := iv s.kind :: iv s.page :: (verV s.v ++ [iv s.n])
theorem stpL_len (a : Stp) : (stpL a).length = 100 := rfl
theorem stpL_plain (a : Stp) : (stpL a).all plainS = true := rfl
theorem u54 : Program.underlying Try.prog 54 = some (.slice 56) := by kernel_rfl
theorem z56 : sizeB Try.prog 56 = some 100 := by kernel_rfl
theorem a56 : aggB Try.prog 56 = some true := by kernel_rfl
noncomputable abbrev dH (j : Jb) (nd : Int) (S : List Stp) (cS : Nat) (d : Dv) (l : Lo) (i : Nat) : Den := denQ (jobL j ++ [iv nd] ++ devC d ++ logC l ++ [iv (i : Int)]) (by kernel_rfl) [oa 0 S.length cS, .v (.slice (some ⟨5, 0, none⟩) d.n d.n), ow 7 l.L.length INF] rfl [enc stpL S, enc secL d.S, enc recL l.L] (PL.cons (enc_plain stpL_plain _) (PL.cons (enc_plain secL_plain _) (PL.cons (enc_plain recL_plain _) no_rows)))
def fH : FV := [(2, ch 0), (3, pt 2 0), (4, pt 3 0), (6, pt 1 0), (7, pt 4 0), (8, pt 6 0), (10, sv 28)]
def aH : HL := [(0, .mrow 56 0 true), (1, .row 4 (.lst [.bool false]) false), (2, .row 24 (.lst (svs 0 5)) false), (3, .row 3 (.lst [sv 5]) false), (4, .row 95 (.lst (ch 1 :: svs 6 13)) false), (5, .orow 114 1 false), (6, .row 62 (.lst (pt 4 0 :: (svs 19 9 ++ [ch 2]))) false), (7, .mrow 47 2 false)]
noncomputable abbrev dG (j : Jb) (nd : Int) (S : List Stp) (cS : Nat) (d : Dv) (l : Lo) (X : List Rec) (i k : Nat) : Den := denQ (jobL j ++ [iv nd] ++ devC d ++ logC l ++ [iv (i : Int), iv (k : Int)] ++ recL (gt l.L k) ++ [iv (X.length : Int), iv (l.start + (k : Int)), iv ((k : Int) + 1)] ++ recL (gt X ((k : Int)).toNat)) (by kernel_rfl) [oa 0 S.length cS, .v (.slice (some ⟨5, 0, none⟩) d.n d.n), ow 7 l.L.length INF, om 11 X.length INF, ow 13 l.L.length INF, .v (.pointer (some ⟨11, 0 + ((k : Int)).toNat * 101, none⟩))] rfl [enc stpL S, enc secL d.S, enc recL l.L, enc recL X, enc recL l.L] (PL.cons (enc_plain stpL_plain _) (PL.cons (enc_plain secL_plain _) (PL.cons (enc_plain recL_plain _) (PL.cons (enc_plain recL_plain _) (PL.cons (enc_plain recL_plain _) no_rows)))))
def fG : FV := fH ++ [(12, pt 9 0), (13, pt 10 0), (15, pt 8 0), (128, .func (.func 73) #[] #[pt 12 0])]
def aG : HL := aH ++ [(8, .row 3 (.lst [sv 29]) false), (9, .row 2 (.lst [sv 26]) false), (10, .row 43 (.lst [ch 3]) false), (11, .mrow 47 3 true), (12, .row 43 (.lst [ch 4]) false), (13, .mrow 47 4 false)]
def BG (j : Jb) (nd : Int) (S : List Stp) (d : Dv) (l : Lo) (X : List Rec) (k : Nat) : HL := [(0, rowOr 56 (enc stpL S) true), (1, .row 4 (.lst [.bool false]) false), (2, .row 24 (.lst (jobL j)) false), (3, .row 3 (.lst [iv nd]) false), (4, .row 95 (.lst (.slice (some ⟨5, 0, none⟩) d.n d.n :: devC d)) false), (5, .row 114 (.lst (enc secL d.S)) false), (6, .row 62 (.lst (pt 4 0 :: (logC l ++ [mSl 7 l.L.length INF 1]))) false), (7, rowOr 47 (enc recL l.L) false), (8, .row 3 (.lst [iv (k : Int)]) false), (9, .row 2 (.lst [iv l.start]) false), (10, .row 43 (.lst [mSl 11 X.length INF 0]) false), (11, rowOr 47 (enc recL X) true), (12, .row 43 (.lst [mSl 13 l.L.length INF 1]) false), (13, rowOr 47 (enc recL l.L) false)]
noncomputable abbrev xG : Cfg := headJ (.code (.rangeFunc (rng Try.prog 5 0).1 (rng Try.prog 5 0).2.1 (rng Try.prog 5 0).2.2.1 (rng Try.prog 5 0).2.2.2.1) :: (rng Try.prog 5 0).2.2.2.2) .normal fG 171 15 aG
def AR (S : List Stp) : HL := [(0, rowOr 56 (enc stpL S) true)]
abbrev CRd (j : Jb) (nd : Int) (S : List Stp) (cS : Nat) : Prop := Ctr Try.prog 5 [jobV j, iv nd, mSl 0 S.length cS 2] (AR S) (.bool true) []
abbrev GH (j : Jb) (nd : Int) (S : List Stp) (cS : Nat) (d : Dv) (l : Lo) (i : Nat) : Prop := GoodJ (dH j nd S cS d l i) Try.prog 5 (.bool true) (headJ (hd 5 0) .normal fH 171 8 aH)
abbrev GG (j : Jb) (nd : Int) (S : List Stp) (cS : Nat) (d : Dv) (l : Lo) (X : List Rec) (i : Nat) : Prop := GoodJ (dG j nd S cS d l X i 0) Try.prog 5 (.bool true) xG
noncomputable abbrev dN : Den := denQ [] rfl [] rfl [] no_rows
section
variable {j : Jb} {nd : Int} {S : List Stp} {cS : Nat}
theorem rd_nojob (hmj : Ctr Try.prog 23 [jobV j] [] (.bool false) []) : CRd j nd S cS := by
  exact pth (denQ (jobL j ++ [.int .i64 (nd)]) (by kernel_rfl) [oa 0 S.length cS] rfl [enc stpL S] (PL.cons (enc_plain stpL_plain _) no_rows)) ⟨[], [], []⟩ [(23, [⟨[.agg #[sv 0, sv 1, sv 2, sv 3, sv 4]], 4, [], [], [], .bool false⟩]), (12, [⟨[], 4, [], [], [], .bool true⟩])] trivial trivial trivial ⟨oe hmj, oe known_ctr, trivial⟩ 1 ([(0, .mrow 56 0 true)]) [vA 0 5, sv 5, ch 0] []
theorem rd_guard (hmj : Ctr Try.prog 23 [jobV j] [] (.bool true) []) (hg : ¬ (0 ≤ nd ∧ nd < j.nodes ∧ S.length ≤ 60)) : CRd j nd S cS := by
  · by_cases h0 : ((nd) : Int) < (0)
    · skip
      exact pth (denQ (jobL j ++ [.int .i64 (nd)]) (by kernel_rfl) [oa 0 S.length cS] rfl [enc stpL S] (PL.cons (enc_plain stpL_plain _) no_rows)) ⟨[(.bin .lss 3 (sv 5) (.int .i64 0), .bool true)], [], []⟩ [(23, [⟨[.agg #[sv 0, sv 1, sv 2, sv 3, sv 4]], 4, [], [], [], .bool true⟩]), (12, [⟨[], 4, [], [], [], .bool true⟩])] ⟨qT ((nd) < (0)) (by omega), trivial⟩ trivial trivial ⟨oe hmj, oe known_ctr, trivial⟩ 1 ([(0, .mrow 56 0 true)]) [vA 0 5, sv 5, ch 0] []
    · by_cases h1 : ((nd) : Int) ≥ (j.nodes)
      · skip
        exact pth (denQ (jobL j ++ [.int .i64 (nd)]) (by kernel_rfl) [oa 0 S.length cS] rfl [enc stpL S] (PL.cons (enc_plain stpL_plain _) no_rows)) ⟨[(.bin .lss 3 (sv 5) (.int .i64 0), .bool false), (.bin .geq 3 (sv 5) (sv 0), .bool true)], [], []⟩ [(23, [⟨[.agg #[sv 0, sv 1, sv 2, sv 3, sv 4]], 4, [], [], [], .bool true⟩]), (12, [⟨[], 4, [], [], [], .bool true⟩])] ⟨qF ((nd) < (0)) (by omega), qT ((nd) ≥ (j.nodes)) (by omega), trivial⟩ trivial trivial ⟨oe hmj, oe known_ctr, trivial⟩ 1 ([(0, .mrow 56 0 true)]) [vA 0 5, sv 5, ch 0] []
      · by_cases h2 : (((S.length : Int)) : Int) > (60)
        · skip
          exact pth (denQ (jobL j ++ [.int .i64 (nd), .int .i64 ((S.length : Int))]) (by kernel_rfl) [oa 0 S.length cS] rfl [enc stpL S] (PL.cons (enc_plain stpL_plain _) no_rows)) ⟨[(.bin .lss 3 (sv 5) (.int .i64 0), .bool false), (.bin .geq 3 (sv 5) (sv 0), .bool false), (.len 54 (.chan (some 0)), sv 6), (.bin .gtr 3 (sv 6) (.int .i64 60), .bool true)], [], []⟩ [(23, [⟨[.agg #[sv 0, sv 1, sv 2, sv 3, sv 4]], 4, [], [], [], .bool true⟩]), (12, [⟨[], 4, [], [], [], .bool true⟩])] ⟨qF ((nd) < (0)) (by omega), qF ((nd) ≥ (j.nodes)) (by omega), asLen u54 rfl (by kernel_rfl), qT (((S.length : Int)) > (60)) (by omega), trivial⟩ trivial trivial ⟨oe hmj, oe known_ctr, trivial⟩ 1 ([(0, .mrow 56 0 true)]) [vA 0 5, sv 5, ch 0] []
        · exact absurd ⟨by omega, by omega, by omega⟩ hg
theorem rd_start (h1 : 0 ≤ nd ∧ nd < j.nodes) (h2 : S.length ≤ 60) (hmj : Ctr Try.prog 23 [jobV j] [] (.bool true) []) (hnew : Ctr Try.prog 14 [jobV j] [] (pt 0 0) (devH (devN j) false)) (hopen : Ctr Try.prog 15 [pt 0 0, jobV j, iv nd, iv 1] (devH (devN j) false) (.tuple #[pt 2 0, iv 0]) (devH (devN j) false ++ logA (log0 j nd) 3 false))
    (hg : GH j nd S cS (devN j) (log0 j nd) 0) : CRd j nd S cS := by
  have hg : GoodS (dH j nd S cS (devN j) (log0 j nd) 0) Try.prog 5 (AR S) (.bool true) [] [] (headC (hd 5 0) .normal fH 171 8 aH) := GoodJ.start hg (by kernel_rfl) (by kernel_rfl)
  · exact g0 (denQ (jobL j ++ [.int .i64 (nd), .int .i64 ((S.length : Int))] ++ devC (devN j) ++ devC (devN j) ++ logC (log0 j nd)) (by kernel_rfl) [oa 0 S.length cS, .v (.slice (some ⟨5, 0, none⟩) (devN j).n (devN j).n), ow 7 (log0 j nd).L.length INF] rfl [enc stpL S, enc secL (devN j).S, enc secL (devN j).S, enc recL (log0 j nd).L] (PL.cons (enc_plain stpL_plain _) (PL.cons (enc_plain secL_plain _) (PL.cons (enc_plain secL_plain _) (PL.cons (enc_plain recL_plain _) no_rows))))) (dH j nd S cS (devN j) (log0 j nd) 0) ⟨[(.bin .lss 3 (sv 5) (.int .i64 0), .bool false), (.bin .geq 3 (sv 5) (sv 0), .bool false), (.len 54 (.chan (some 0)), sv 6), (.bin .gtr 3 (sv 6) (.int .i64 60), .bool false)], [], []⟩ [(23, [⟨[.agg #[sv 0, sv 1, sv 2, sv 3, sv 4]], 4, [], [], [], .bool true⟩]), (14, [⟨[.agg #[sv 0, sv 1, sv 2, sv 3, sv 4]], 4, [], [], [(0, .row 95 (.lst ([.chan (some 1)] ++ svs 7 13)) false), (1, .orow 114 1 false)], .pointer (some ⟨4, 0, none⟩)⟩]), (15, [⟨[.pointer (some ⟨4, 0, none⟩), .agg #[sv 0, sv 1, sv 2, sv 3, sv 4], sv 5, .int .i64 1], 6, [], [⟨4, 0, false, .row 95 (.lst ([.chan (some 1)] ++ svs 7 13)) false, .row 95 (.lst ([.chan (some 1)] ++ svs 20 13)) false⟩, ⟨5, 1, false, .orow 114 1 false, .orow 114 2 false⟩], [(2, .row 62 (.lst ([.pointer (some ⟨4, 0, none⟩)] ++ svs 33 9 ++ [.chan (some 2)])) false), (3, .mrow 47 3 false)], .tuple #[.pointer (some ⟨6, 0, none⟩), .int .i64 0]⟩])] ⟨qF ((nd) < (0)) (by omega), qF ((nd) ≥ (j.nodes)) (by omega), asLen u54 rfl (by kernel_rfl), qF (((S.length : Int)) > (60)) (by omega), trivial⟩ trivial trivial ⟨oe hmj, oe hnew, oe hopen, trivial⟩ 19 1 [(0, .mrow 56 0 true)] [vA 0 5, sv 5, ch 0] [(0, 0), (3, 1), (1, 2), (2, 3), (4, 4), (5, 5), (6, 6), (7, 7)] hg
variable {d : Dv} {l : Lo} {X : List Rec} {i : Nat}
theorem rd_end (hi : S.length ≤ i) : GH j nd S cS d l i := by
  have hg : GoodJ dN Try.prog 5 (.bool true) (headJ [] .ret [(6, pt 0 0)] 171 1 [(0, .row 4 (.lst [.bool true]) false)]) := GoodJ.fin (.inl rfl) (by kernel_rfl) (by kernel_rfl) (by kernel_rfl)
  · exact gJ (denQ (jobL j ++ [.int .i64 (nd)] ++ devC d ++ logC l ++ [.int .i64 ((i : Int)), .int .i64 ((S.length : Int))]) (by kernel_rfl) [oa 0 S.length cS, .v (.slice (some ⟨5, 0, none⟩) d.n d.n), ow 7 l.L.length INF] rfl [enc stpL S, enc secL d.S, enc recL l.L] (PL.cons (enc_plain stpL_plain _) (PL.cons (enc_plain secL_plain _) (PL.cons (enc_plain recL_plain _) no_rows)))) dN (fun _ => sgJ ⟨[(.len 54 (.chan (some 0)), sv 29), (.bin .lss 3 (sv 28) (sv 29), .bool false)], [], []⟩ [(12, [⟨[], 8, [], [], [], .bool true⟩])] ⟨asLen u54 rfl (by kernel_rfl), qF (((i : Int)) < ((S.length : Int))) (by omega), trivial⟩ trivial trivial ⟨oe known_ctr, trivial⟩) 10 [(1, 0)] [] hg
theorem rd_y {k : Nat} (hk : k < X.length) (hX : X.length ≤ 1000) (hb : 0 ≤ l.start ∧ l.start ≤ 1000000) (heq : eqR (gt X (((k : Int)) : Int).toNat) (gt l.L k) = true) (hr : (gt l.L k).lsn = l.start + k ∧ (gt l.L k).node = nd ∧ (gt l.L k).epoch = 1) :
    RoundOK (dG j nd S cS d l X i k) (dG j nd S cS d l X i (k + 1)) Try.prog aG fG 171 15 (rng Try.prog 5 0).2.1.toList (.agg (recL (gt l.L k)).toArray) (rng Try.prog 5 0).2.2.1 (rng Try.prog 5 0).2.2.2.1 := by
  obtain ⟨r1, r2, r3⟩ := hr
  · exact gR (fun _ => sgJ ⟨[(.len 43 (.chan (some 3)), sv 131), (.bin .lss 3 (sv 29) (sv 131), .bool true), (.ixa 43 (.chan (some 3)) (sv 29), .chan (some 5)), (.bin .neq 47 (.agg (svs 134 101).toArray) (.agg (svs 30 101).toArray), .bool false), (.bin .add 2 (sv 26) (sv 29), sv 132), (.bin .neq 2 (sv 32) (sv 132), .bool false), (.bin .neq 3 (sv 30) (sv 5), .bool false), (.bin .neq 2 (sv 31) (.int .i64 1), .bool false), (.bin .add 3 (sv 29) (.int .i64 1), sv 133)], [⟨47, 5, 11, 3, vA 134 101⟩], []⟩ [] ⟨asLen u43 rfl (by kernel_rfl), qT (((k : Int)) < ((X.length : Int))) (by omega), asIxaM u43 z47 rfl (by omega) rfl (by omega) (by omega) rfl rfl, aN1 (eqR (gt X (((k : Int)) : Int).toNat) (gt l.L k)) (heq), aq (.int .i64 ((l.start) + ((k : Int)))) (.int .i64 (IntKind.i64.wrap ((l.start) + ((k : Int))))) (wVi64 ((l.start) + ((k : Int))) (by omega) (by omega)), nF ((gt l.L k).lsn) ((l.start) + ((k : Int))) (by omega), nF ((gt l.L k).node) (nd) (by omega), nF ((gt l.L k).epoch) (1) (by omega), aq (.int .i64 (((k : Int)) + (1))) (.int .i64 (IntKind.i64.wrap (((k : Int)) + (1)))) (wVi64 (((k : Int)) + (1)) (by omega) (by omega)), trivial⟩ ⟨ldE recL_len a47 z47 (by omega) rfl rfl (by kernel_rfl), trivial⟩ trivial trivial) 7 (vA 30 101) 14 (BG j nd S d l X (k + 1))
theorem rd_n {k : Nat} (hk : X.length ≤ k) (hk2 : k ≤ 1000) (hb : 0 ≤ l.start ∧ l.start ≤ 1000000) (hr : (gt l.L k).lsn = l.start + k ∧ (gt l.L k).node = nd ∧ (gt l.L k).epoch = 1) :
    RoundOK (dG j nd S cS d l X i k) (dG j nd S cS d l X i (k + 1)) Try.prog aG fG 171 15 (rng Try.prog 5 0).2.1.toList (.agg (recL (gt l.L k)).toArray) (rng Try.prog 5 0).2.2.1 (rng Try.prog 5 0).2.2.2.1 := by
  obtain ⟨r1, r2, r3⟩ := hr
  · exact gR (fun _ => sgJ ⟨[(.len 43 (.chan (some 3)), sv 131), (.bin .lss 3 (sv 29) (sv 131), .bool false), (.bin .add 2 (sv 26) (sv 29), sv 132), (.bin .neq 2 (sv 32) (sv 132), .bool false), (.bin .neq 3 (sv 30) (sv 5), .bool false), (.bin .neq 2 (sv 31) (.int .i64 1), .bool false), (.bin .add 3 (sv 29) (.int .i64 1), sv 133)], [], []⟩ [] ⟨asLen u43 rfl (by kernel_rfl), qF (((k : Int)) < ((X.length : Int))) (by omega), aq (.int .i64 ((l.start) + ((k : Int)))) (.int .i64 (IntKind.i64.wrap ((l.start) + ((k : Int))))) (wVi64 ((l.start) + ((k : Int))) (by omega) (by omega)), nF ((gt l.L k).lsn) ((l.start) + ((k : Int))) (by omega), nF ((gt l.L k).node) (nd) (by omega), nF ((gt l.L k).epoch) (1) (by omega), aq (.int .i64 (((k : Int)) + (1))) (.int .i64 (IntKind.i64.wrap (((k : Int)) + (1)))) (wVi64 (((k : Int)) + (1)) (by omega) (by omega)), trivial⟩ trivial trivial trivial) 7 (vA 30 101) 14 (BG j nd S d l X (k + 1))
theorem rd_post (hl : LOK l) (hi : i < 1000) (hb : l.start + l.L.length ≤ 1000000) (hg : GH j nd S cS d l (i + 1)) : GoodJ (dG j nd S cS d l X i l.L.length) Try.prog 5 (.bool true) (headJ (rng Try.prog 5 0).2.2.2.2 .normal fG 171 15 aG) := by
  have hs1 := hl.st
  have hs3 := hl.ln
  · exact gJ (denQ (jobL j ++ [.int .i64 (nd)] ++ devC d ++ logC l ++ [.int .i64 ((i : Int)), .int .i64 ((l.L.length : Int))] ++ recL (gt l.L l.L.length) ++ [.int .i64 ((X.length : Int)), .int .i64 ((l.start) + ((l.L.length : Int))), .int .i64 (((l.L.length : Int)) + (1))] ++ recL (gt X (((l.L.length : Int)) : Int).toNat) ++ [.int .i64 ((l.start + l.L.length)), .int .i64 (((l.start + l.L.length)) - (l.start)), .int .i64 (((i : Int)) + (1))]) (by kernel_rfl) [oa 0 S.length cS, .v (.slice (some ⟨5, 0, none⟩) d.n d.n), ow 7 l.L.length INF, om 11 X.length INF, ow 13 l.L.length INF, .v (.pointer (some ⟨11, 0 + (((l.L.length : Int)) : Int).toNat * 101, none⟩))] rfl [enc stpL S, enc secL d.S, enc recL l.L, enc recL X, enc recL l.L] (PL.cons (enc_plain stpL_plain _) (PL.cons (enc_plain secL_plain _) (PL.cons (enc_plain recL_plain _) (PL.cons (enc_plain recL_plain _) (PL.cons (enc_plain recL_plain _) no_rows)))))) (dH j nd S cS d l (i + 1)) (fun _ => sgJ ⟨[(.bin .sub 2 (sv 235) (sv 26), sv 236), (.bin .neq 2 (sv 29) (sv 236), .bool false), (.bin .add 3 (sv 28) (.int .i64 1), sv 237)], [], []⟩ [(19, [⟨[.pointer (some ⟨6, 0, none⟩)], 15, [(4, 0)], [⟨6, 2, true, .row 62 (.lst ([.pointer (some ⟨4, 0, none⟩)] ++ svs 19 9 ++ [.chan (some 2)])) false, .row 62 (.lst ([.pointer (some ⟨4, 0, none⟩)] ++ svs 19 9 ++ [.chan (some 2)])) false⟩, ⟨7, 3, true, .mrow 47 2 false, .mrow 47 2 false⟩], [], sv 235⟩]), (28, [⟨[.pointer (some ⟨6, 0, none⟩)], 15, [(4, 0)], [⟨6, 2, true, .row 62 (.lst ([.pointer (some ⟨4, 0, none⟩)] ++ svs 19 9 ++ [.chan (some 2)])) false, .row 62 (.lst ([.pointer (some ⟨4, 0, none⟩)] ++ svs 19 9 ++ [.chan (some 2)])) false⟩, ⟨7, 3, true, .mrow 47 2 false, .mrow 47 2 false⟩], [], sv 26⟩])] ⟨aq (.int .i64 (((l.start + l.L.length)) - (l.start))) (.int .i64 (IntKind.i64.wrap (((l.start + l.L.length)) - (l.start)))) (wVi64 (((l.start + l.L.length)) - (l.start)) (by omega) (by omega)), nF ((l.L.length : Int)) (((l.start + l.L.length)) - (l.start)) (by omega), aq (.int .i64 (((i : Int)) + (1))) (.int .i64 (IntKind.i64.wrap (((i : Int)) + (1)))) (wVi64 (((i : Int)) + (1)) (by omega) (by omega)), trivial⟩ trivial trivial ⟨oe (next_ctr hl), oe (start_ctr (l := l)), trivial⟩) 7 [(0, 0), (1, 1), (2, 2), (3, 3), (4, 4), (5, 5), (6, 6), (7, 7)] [] hg
end
end Go.Proofs.Ytpennfojidpmeaa
namespace Go.Proofs.Ytpennfojidpmeaa
open Go.Sx
set_option maxRecDepth 20000
section
variable {j : Jb} {nd : Int} {S : List Stp} {cS : Nat} {d : Dv} {l : Lo} {X : List Rec} {i : Nat}
set_option maxHeartbeats 4000000 in
theorem rd_a (hi : i < S.length) (hS : S.length ≤ 60) (hk : (gt S i).kind = 1) (happ : Ctr Try.prog 20 [pt 2 0, iv (gt S i).page, .agg (verV (gt S i).v).toArray] (logR l 3 false) (.tuple #[iv (l.start + l.L.length), iv 0]) [(2, .row 62 (.lst (logRow (apM l (gt S i).page (gt S i).v) 4)) false), (3, .dead), (4, rowOr 47 (enc recL (apM l (gt S i).page (gt S i).v).L) false), (0, .dead)]) (hl' : LOK (apM l (gt S i).page (gt S i).v)) (hread : Ctr Try.prog 22 [pt 0 0, jobV j, iv nd] (devH d true) (.tuple #[iv (apM l (gt S i).page (gt S i).v).start, mSl 2 X.length INF 0, iv 0]) [(2, rowOr 47 (enc recL X) false)])
    (hX : (X.length : Int) = (apM l (gt S i).page (gt S i).v).flushed - (apM l (gt S i).page (gt S i).v).start + 1) (hb : (apM l (gt S i).page (gt S i).v).start + (apM l (gt S i).page (gt S i).v).L.length ≤ 1000000) (hrm : roomM (apM l (gt S i).page (gt S i).v) = j.log - (apM l (gt S i).page (gt S i).v).L.length) (hjl : 2 ≤ j.log ∧ j.log ≤ 64)
    (hg : GG j nd S cS d (apM l (gt S i).page (gt S i).v) X i) : GH j nd S cS d l i := by
  have hk' : (gt S (((i : Int)) : Int).toNat).kind = 1 := hk
  have hstart := start_ctr (l := (apM l (gt S i).page (gt S i).v))
  have hfl := flushed_ctr (l := (apM l (gt S i).page (gt S i).v))
  have hnext := next_ctr hl'
  have hroom := room_ctr hl'
  have hrec := recs_ctr (l := (apM l (gt S i).page (gt S i).v)) (by have := hl'.ln; have := hl'.j.l; omega)
  have hs1 := hl'.st
  have hs2 := hl'.fl
  have hs3 := hl'.ln
  have hs4 := hl'.j.l
  · exact gJ (denQ (jobL j ++ [.int .i64 (nd)] ++ devC d ++ logC l ++ [.int .i64 ((i : Int)), .int .i64 ((S.length : Int))] ++ stpL (gt S (((i : Int)) : Int).toNat) ++ logC (apM l (gt S i).page (gt S i).v) ++ [.int .i64 ((l.start + l.L.length)), .int .i64 ((X.length : Int)), .int .i64 (((apM l (gt S i).page (gt S i).v).start) + ((X.length : Int))), .int .i64 ((((apM l (gt S i).page (gt S i).v).start) + ((X.length : Int))) - (1)), .int .i64 (((apM l (gt S i).page (gt S i).v).start + (apM l (gt S i).page (gt S i).v).L.length)), .int .i64 ((roomM (apM l (gt S i).page (gt S i).v))), .int .i64 ((((apM l (gt S i).page (gt S i).v).start + (apM l (gt S i).page (gt S i).v).L.length)) - ((apM l (gt S i).page (gt S i).v).start)), .int .i64 ((j.log) - ((((apM l (gt S i).page (gt S i).v).start + (apM l (gt S i).page (gt S i).v).L.length)) - ((apM l (gt S i).page (gt S i).v).start)))]) (by kernel_rfl) [oa 0 S.length cS, .v (.slice (some ⟨5, 0, none⟩) d.n d.n), ow 7 l.L.length INF, .v (.pointer (some ⟨0, 0 + (((i : Int)) : Int).toNat * 100, none⟩)), ow 9 (apM l (gt S i).page (gt S i).v).L.length INF, om 10 X.length INF, ow 15 (apM l (gt S i).page (gt S i).v).L.length INF] rfl [enc stpL S, enc secL d.S, enc recL l.L, enc recL (apM l (gt S i).page (gt S i).v).L, enc recL X, enc recL (apM l (gt S i).page (gt S i).v).L] (PL.cons (enc_plain stpL_plain _) (PL.cons (enc_plain secL_plain _) (PL.cons (enc_plain recL_plain _) (PL.cons (enc_plain recL_plain _) (PL.cons (enc_plain recL_plain _) (PL.cons (enc_plain recL_plain _) no_rows))))))) (dG j nd S cS d (apM l (gt S i).page (gt S i).v) X i 0) (fun _ => sgJ ⟨[(.len 54 (.chan (some 0)), sv 29), (.bin .lss 3 (sv 28) (sv 29), .bool true), (.ixa 54 (.chan (some 0)) (sv 28), .chan (some 3)), (.bin .eql 3 (sv 30) (.int .i64 1), .bool true), (.bin .neq 2 (sv 137) (sv 137), .bool false), (.len 43 (.chan (some 5)), sv 140), (.bin .add 2 (sv 137) (sv 140), sv 141), (.bin .sub 2 (sv 141) (.int .i64 1), sv 142), (.bin .neq 2 (sv 142) (sv 138), .bool false), (.bin .geq 2 (sv 138) (sv 143), .bool false), (.bin .sub 2 (sv 143) (sv 137), sv 145), (.bin .sub 3 (sv 3) (sv 145), sv 146), (.bin .neq 3 (sv 144) (sv 146), .bool false)], [⟨56, 3, 0, 0, vA 30 100⟩], []⟩ [(20, [⟨[.pointer (some ⟨6, 0, none⟩), sv 31, .agg (svs 32 97).toArray], 9, [(4, 0)], [⟨6, 2, false, .row 62 (.lst ([.pointer (some ⟨4, 0, none⟩)] ++ svs 19 9 ++ [.chan (some 2)])) false, .row 62 (.lst ([.pointer (some ⟨4, 0, none⟩)] ++ svs 130 9 ++ [.chan (some 4)])) false⟩, ⟨7, 3, false, .mrow 47 2 false, .dead⟩], [(4, .mrow 47 3 false)], .tuple #[sv 139, .int .i64 0]⟩]), (22, [⟨[.pointer (some ⟨4, 0, none⟩), .agg #[sv 0, sv 1, sv 2, sv 3, sv 4], sv 5], 10, [], [⟨4, 0, true, .row 95 (.lst ([.chan (some 1)] ++ svs 6 13)) false, .row 95 (.lst ([.chan (some 1)] ++ svs 6 13)) false⟩, ⟨5, 1, true, .orow 114 1 false, .orow 114 1 false⟩], [(2, .mrow 47 4 false)], .tuple #[sv 137, .chan (some 5), .int .i64 0]⟩]), (28, [⟨[.pointer (some ⟨6, 0, none⟩)], 13, [(4, 0)], [⟨6, 2, true, .row 62 (.lst ([.pointer (some ⟨4, 0, none⟩)] ++ svs 130 9 ++ [.chan (some 4)])) false, .row 62 (.lst ([.pointer (some ⟨4, 0, none⟩)] ++ svs 130 9 ++ [.chan (some 4)])) false⟩, ⟨9, 3, true, .mrow 47 3 false, .mrow 47 3 false⟩], [], sv 137⟩]), (24, [⟨[.pointer (some ⟨6, 0, none⟩)], 13, [(4, 0)], [⟨6, 2, true, .row 62 (.lst ([.pointer (some ⟨4, 0, none⟩)] ++ svs 130 9 ++ [.chan (some 4)])) false, .row 62 (.lst ([.pointer (some ⟨4, 0, none⟩)] ++ svs 130 9 ++ [.chan (some 4)])) false⟩, ⟨9, 3, true, .mrow 47 3 false, .mrow 47 3 false⟩], [], sv 138⟩]), (19, [⟨[.pointer (some ⟨6, 0, none⟩)], 13, [(4, 0)], [⟨6, 2, true, .row 62 (.lst ([.pointer (some ⟨4, 0, none⟩)] ++ svs 130 9 ++ [.chan (some 4)])) false, .row 62 (.lst ([.pointer (some ⟨4, 0, none⟩)] ++ svs 130 9 ++ [.chan (some 4)])) false⟩, ⟨9, 3, true, .mrow 47 3 false, .mrow 47 3 false⟩], [], sv 143⟩]), (16, [⟨[.pointer (some ⟨6, 0, none⟩)], 13, [(4, 0)], [⟨6, 2, true, .row 62 (.lst ([.pointer (some ⟨4, 0, none⟩)] ++ svs 130 9 ++ [.chan (some 4)])) false, .row 62 (.lst ([.pointer (some ⟨4, 0, none⟩)] ++ svs 130 9 ++ [.chan (some 4)])) false⟩, ⟨9, 3, true, .mrow 47 3 false, .mrow 47 3 false⟩], [], sv 144⟩]), (29, [⟨[.pointer (some ⟨6, 0, none⟩)], 14, [(4, 0)], [⟨6, 2, true, .row 62 (.lst ([.pointer (some ⟨4, 0, none⟩)] ++ svs 130 9 ++ [.chan (some 4)])) false, .row 62 (.lst ([.pointer (some ⟨4, 0, none⟩)] ++ svs 130 9 ++ [.chan (some 4)])) false⟩, ⟨9, 3, true, .mrow 47 3 false, .mrow 47 3 false⟩], [(4, .row 43 (.lst [ch 6]) false), (5, .mrow 47 5 false)], .func (.func 73) #[] #[.pointer (some ⟨14, 0, none⟩)]⟩])] ⟨asLen u54 rfl (by kernel_rfl), qT (((i : Int)) < ((S.length : Int))) (by omega), asIxaM u54 z56 rfl (by omega) rfl (by omega) (by omega) rfl rfl, eT ((gt S (((i : Int)) : Int).toNat).kind) (1) (by omega), nF ((apM l (gt S i).page (gt S i).v).start) ((apM l (gt S i).page (gt S i).v).start) (by omega), asLen u43 rfl (by kernel_rfl), aq (.int .i64 (((apM l (gt S i).page (gt S i).v).start) + ((X.length : Int)))) (.int .i64 (IntKind.i64.wrap (((apM l (gt S i).page (gt S i).v).start) + ((X.length : Int))))) (wVi64 (((apM l (gt S i).page (gt S i).v).start) + ((X.length : Int))) (by omega) (by omega)), aq (.int .i64 ((((apM l (gt S i).page (gt S i).v).start) + ((X.length : Int))) - (1))) (.int .i64 (IntKind.i64.wrap ((((apM l (gt S i).page (gt S i).v).start) + ((X.length : Int))) - (1)))) (wVi64 ((((apM l (gt S i).page (gt S i).v).start) + ((X.length : Int))) - (1)) (by omega) (by omega)), nF ((((apM l (gt S i).page (gt S i).v).start) + ((X.length : Int))) - (1)) ((apM l (gt S i).page (gt S i).v).flushed) (by omega), qF (((apM l (gt S i).page (gt S i).v).flushed) ≥ (((apM l (gt S i).page (gt S i).v).start + (apM l (gt S i).page (gt S i).v).L.length))) (by omega), aq (.int .i64 ((((apM l (gt S i).page (gt S i).v).start + (apM l (gt S i).page (gt S i).v).L.length)) - ((apM l (gt S i).page (gt S i).v).start))) (.int .i64 (IntKind.i64.wrap ((((apM l (gt S i).page (gt S i).v).start + (apM l (gt S i).page (gt S i).v).L.length)) - ((apM l (gt S i).page (gt S i).v).start)))) (wVi64 ((((apM l (gt S i).page (gt S i).v).start + (apM l (gt S i).page (gt S i).v).L.length)) - ((apM l (gt S i).page (gt S i).v).start)) (by omega) (by omega)), aq (.int .i64 ((j.log) - ((((apM l (gt S i).page (gt S i).v).start + (apM l (gt S i).page (gt S i).v).L.length)) - ((apM l (gt S i).page (gt S i).v).start)))) (.int .i64 (IntKind.i64.wrap ((j.log) - ((((apM l (gt S i).page (gt S i).v).start + (apM l (gt S i).page (gt S i).v).L.length)) - ((apM l (gt S i).page (gt S i).v).start))))) (wVi64 ((j.log) - ((((apM l (gt S i).page (gt S i).v).start + (apM l (gt S i).page (gt S i).v).L.length)) - ((apM l (gt S i).page (gt S i).v).start))) (by omega) (by omega)), nF ((roomM (apM l (gt S i).page (gt S i).v))) ((j.log) - ((((apM l (gt S i).page (gt S i).v).start + (apM l (gt S i).page (gt S i).v).L.length)) - ((apM l (gt S i).page (gt S i).v).start))) (by omega), trivial⟩ ⟨ldE stpL_len a56 z56 (by omega) rfl rfl (by kernel_rfl), trivial⟩ trivial ⟨oe happ, oe hread, oe hstart, oe hfl, oe hnext, oe hroom, oe hrec, trivial⟩) 34 [(0, 0), (1, 1), (2, 2), (3, 3), (4, 4), (5, 5), (6, 6), (9, 7), (13, 8), (11, 9), (12, 10), (10, 11), (14, 12), (15, 13)] [10] hg
set_option maxHeartbeats 4000000 in
theorem rd_b (hi : i < S.length) (hS : S.length ≤ 60) (hk : (gt S i).kind = 1) (happ : Ctr Try.prog 20 [pt 2 0, iv (gt S i).page, .agg (verV (gt S i).v).toArray] (logR l 3 false) (.tuple #[iv 0, iv 2]) (logR l 3 false)) (hl' : LOK l) (hread : Ctr Try.prog 22 [pt 0 0, jobV j, iv nd] (devH d true) (.tuple #[iv l.start, mSl 2 X.length INF 0, iv 0]) [(2, rowOr 47 (enc recL X) false)])
    (hX : (X.length : Int) = l.flushed - l.start + 1) (hb : l.start + l.L.length ≤ 1000000) (hrm : roomM l = j.log - l.L.length) (hjl : 2 ≤ j.log ∧ j.log ≤ 64)
    (hg : GG j nd S cS d l X i) : GH j nd S cS d l i := by
  have hk' : (gt S (((i : Int)) : Int).toNat).kind = 1 := hk
  have hstart := start_ctr (l := l)
  have hfl := flushed_ctr (l := l)
  have hnext := next_ctr hl'
  have hroom := room_ctr hl'
  have hrec := recs_ctr (l := l) (by have := hl'.ln; have := hl'.j.l; omega)
  have hs1 := hl'.st
  have hs2 := hl'.fl
  have hs3 := hl'.ln
  have hs4 := hl'.j.l
  · exact gJ (denQ (jobL j ++ [.int .i64 (nd)] ++ devC d ++ logC l ++ [.int .i64 ((i : Int)), .int .i64 ((S.length : Int))] ++ stpL (gt S (((i : Int)) : Int).toNat) ++ logC l ++ [.int .i64 ((X.length : Int)), .int .i64 ((l.start) + ((X.length : Int))), .int .i64 (((l.start) + ((X.length : Int))) - (1)), .int .i64 ((l.start + l.L.length)), .int .i64 ((roomM l)), .int .i64 (((l.start + l.L.length)) - (l.start)), .int .i64 ((j.log) - (((l.start + l.L.length)) - (l.start)))]) (by kernel_rfl) [oa 0 S.length cS, .v (.slice (some ⟨5, 0, none⟩) d.n d.n), ow 7 l.L.length INF, .v (.pointer (some ⟨0, 0 + (((i : Int)) : Int).toNat * 100, none⟩)), ow 7 l.L.length INF, om 9 X.length INF, ow 14 l.L.length INF] rfl [enc stpL S, enc secL d.S, enc recL l.L, enc recL l.L, enc recL X, enc recL l.L] (PL.cons (enc_plain stpL_plain _) (PL.cons (enc_plain secL_plain _) (PL.cons (enc_plain recL_plain _) (PL.cons (enc_plain recL_plain _) (PL.cons (enc_plain recL_plain _) (PL.cons (enc_plain recL_plain _) no_rows))))))) (dG j nd S cS d l X i 0) (fun _ => sgJ ⟨[(.len 54 (.chan (some 0)), sv 29), (.bin .lss 3 (sv 28) (sv 29), .bool true), (.ixa 54 (.chan (some 0)) (sv 28), .chan (some 3)), (.bin .eql 3 (sv 30) (.int .i64 1), .bool true), (.bin .neq 2 (sv 26) (sv 26), .bool false), (.len 43 (.chan (some 5)), sv 139), (.bin .add 2 (sv 26) (sv 139), sv 140), (.bin .sub 2 (sv 140) (.int .i64 1), sv 141), (.bin .neq 2 (sv 141) (sv 27), .bool false), (.bin .geq 2 (sv 27) (sv 142), .bool false), (.bin .sub 2 (sv 142) (sv 26), sv 144), (.bin .sub 3 (sv 3) (sv 144), sv 145), (.bin .neq 3 (sv 143) (sv 145), .bool false)], [⟨56, 3, 0, 0, vA 30 100⟩], []⟩ [(20, [⟨[.pointer (some ⟨6, 0, none⟩), sv 31, .agg (svs 32 97).toArray], 9, [(4, 0)], [⟨6, 2, false, .row 62 (.lst ([.pointer (some ⟨4, 0, none⟩)] ++ svs 19 9 ++ [.chan (some 2)])) false, .row 62 (.lst ([.pointer (some ⟨4, 0, none⟩)] ++ svs 130 9 ++ [.chan (some 4)])) false⟩, ⟨7, 3, false, .mrow 47 2 false, .mrow 47 3 false⟩], [], .tuple #[.int .i64 0, .int .i64 2]⟩]), (22, [⟨[.pointer (some ⟨4, 0, none⟩), .agg #[sv 0, sv 1, sv 2, sv 3, sv 4], sv 5], 9, [], [⟨4, 0, true, .row 95 (.lst ([.chan (some 1)] ++ svs 6 13)) false, .row 95 (.lst ([.chan (some 1)] ++ svs 6 13)) false⟩, ⟨5, 1, true, .orow 114 1 false, .orow 114 1 false⟩], [(2, .mrow 47 4 false)], .tuple #[sv 26, .chan (some 5), .int .i64 0]⟩]), (28, [⟨[.pointer (some ⟨6, 0, none⟩)], 12, [(4, 0)], [⟨6, 2, true, .row 62 (.lst ([.pointer (some ⟨4, 0, none⟩)] ++ svs 130 9 ++ [.chan (some 4)])) false, .row 62 (.lst ([.pointer (some ⟨4, 0, none⟩)] ++ svs 130 9 ++ [.chan (some 4)])) false⟩, ⟨7, 3, true, .mrow 47 3 false, .mrow 47 3 false⟩], [], sv 26⟩]), (24, [⟨[.pointer (some ⟨6, 0, none⟩)], 12, [(4, 0)], [⟨6, 2, true, .row 62 (.lst ([.pointer (some ⟨4, 0, none⟩)] ++ svs 130 9 ++ [.chan (some 4)])) false, .row 62 (.lst ([.pointer (some ⟨4, 0, none⟩)] ++ svs 130 9 ++ [.chan (some 4)])) false⟩, ⟨7, 3, true, .mrow 47 3 false, .mrow 47 3 false⟩], [], sv 27⟩]), (19, [⟨[.pointer (some ⟨6, 0, none⟩)], 12, [(4, 0)], [⟨6, 2, true, .row 62 (.lst ([.pointer (some ⟨4, 0, none⟩)] ++ svs 130 9 ++ [.chan (some 4)])) false, .row 62 (.lst ([.pointer (some ⟨4, 0, none⟩)] ++ svs 130 9 ++ [.chan (some 4)])) false⟩, ⟨7, 3, true, .mrow 47 3 false, .mrow 47 3 false⟩], [], sv 142⟩]), (16, [⟨[.pointer (some ⟨6, 0, none⟩)], 12, [(4, 0)], [⟨6, 2, true, .row 62 (.lst ([.pointer (some ⟨4, 0, none⟩)] ++ svs 130 9 ++ [.chan (some 4)])) false, .row 62 (.lst ([.pointer (some ⟨4, 0, none⟩)] ++ svs 130 9 ++ [.chan (some 4)])) false⟩, ⟨7, 3, true, .mrow 47 3 false, .mrow 47 3 false⟩], [], sv 143⟩]), (29, [⟨[.pointer (some ⟨6, 0, none⟩)], 13, [(4, 0)], [⟨6, 2, true, .row 62 (.lst ([.pointer (some ⟨4, 0, none⟩)] ++ svs 130 9 ++ [.chan (some 4)])) false, .row 62 (.lst ([.pointer (some ⟨4, 0, none⟩)] ++ svs 130 9 ++ [.chan (some 4)])) false⟩, ⟨7, 3, true, .mrow 47 3 false, .mrow 47 3 false⟩], [(4, .row 43 (.lst [ch 6]) false), (5, .mrow 47 5 false)], .func (.func 73) #[] #[.pointer (some ⟨13, 0, none⟩)]⟩])] ⟨asLen u54 rfl (by kernel_rfl), qT (((i : Int)) < ((S.length : Int))) (by omega), asIxaM u54 z56 rfl (by omega) rfl (by omega) (by omega) rfl rfl, eT ((gt S (((i : Int)) : Int).toNat).kind) (1) (by omega), nF (l.start) (l.start) (by omega), asLen u43 rfl (by kernel_rfl), aq (.int .i64 ((l.start) + ((X.length : Int)))) (.int .i64 (IntKind.i64.wrap ((l.start) + ((X.length : Int))))) (wVi64 ((l.start) + ((X.length : Int))) (by omega) (by omega)), aq (.int .i64 (((l.start) + ((X.length : Int))) - (1))) (.int .i64 (IntKind.i64.wrap (((l.start) + ((X.length : Int))) - (1)))) (wVi64 (((l.start) + ((X.length : Int))) - (1)) (by omega) (by omega)), nF (((l.start) + ((X.length : Int))) - (1)) (l.flushed) (by omega), qF ((l.flushed) ≥ ((l.start + l.L.length))) (by omega), aq (.int .i64 (((l.start + l.L.length)) - (l.start))) (.int .i64 (IntKind.i64.wrap (((l.start + l.L.length)) - (l.start)))) (wVi64 (((l.start + l.L.length)) - (l.start)) (by omega) (by omega)), aq (.int .i64 ((j.log) - (((l.start + l.L.length)) - (l.start)))) (.int .i64 (IntKind.i64.wrap ((j.log) - (((l.start + l.L.length)) - (l.start))))) (wVi64 ((j.log) - (((l.start + l.L.length)) - (l.start))) (by omega) (by omega)), nF ((roomM l)) ((j.log) - (((l.start + l.L.length)) - (l.start))) (by omega), trivial⟩ ⟨ldE stpL_len a56 z56 (by omega) rfl rfl (by kernel_rfl), trivial⟩ trivial ⟨oe happ, oe hread, oe hstart, oe hfl, oe hnext, oe hroom, oe hrec, trivial⟩) 34 [(0, 0), (1, 1), (2, 2), (3, 3), (4, 4), (5, 5), (6, 6), (7, 7), (12, 8), (10, 9), (11, 10), (9, 11), (13, 12), (14, 13)] [9] hg
end
end Go.Proofs.Ytpennfojidpmeaa

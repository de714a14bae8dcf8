import Derived.Test.YtpennfojidpmeaaQi
import Derived.Test.YtpennfojidpmeaaRows
namespace Go.Sx
variable {P : Program}
theorem mSl_pos {id n c z : Nat} (h : 1 ≤ n) : mSl id n c z = .slice (some ⟨id, 0, none⟩) n c := by
  cases n with
  | zero => omega
  | succ n => rfl
theorem rowOr_pos {T : TypeId} {l : List Value} {ro : Bool} (h : l ≠ []) : rowOr T l ro = .row T (.lst l) ro := by
  cases l with
  | nil => exact absurd rfl h
  | cons => rfl
theorem asSliP {d : Den} {t el : TypeId} {size n id a i r : Nat} {fk : FloatKind} {q : Int} (hu : P.underlying t = some (.slice el)) (hs : sizeB P el = some size) (ho : d.o a = .slice (some ⟨id, 0, none⟩) n INF) (hv : d.v i = .int .i64 q) (h1 : 0 ≤ q) (h2 : q ≤ n) (h3 : n ≤ 1000000)
    (hr : d.o r = .slice (some ⟨id, q.toNat * size, none⟩) (n - q.toNat) (INF - q.toNat)) : @AK.Ok d P (.sli t (.chan (some a)) (some (.float fk i)) none none) (.chan (some r)) := by
  refine asm_sli ?_
  show sliceA P t (d.o a) (some (d.v i)) none none = some (d.o r)
  rw [ho, hv, hr]
  unfold sliceA
  simp only [hu, hs, boundA]
  have hk : knownCap INF = false := by decide
  have h4 : decide (0 ≤ q ∧ q ≤ (n : Int)) = true := decide_eq_true ⟨h1, h2⟩
  have hb : (Nat.ble (HALF + q.toNat) INF && Nat.ble INF INF) = true := by
    simp only [Bool.and_eq_true, Nat.ble_eq]
    unfold HALF INF
    omega
  simp only [hk, h4, cond_false, cond_true, Option.isSome_none, Bool.false_and, Bool.or_false, hb]
  simp [Addr.add]
  exact fun h => h.symm
theorem asSliW {d : Den} {t el : TypeId} {size i : Nat} {fk : FloatKind} {q : Int} (hu : P.underlying t = some (.slice el)) (hs : sizeB P el = some size) (h : q = 0) (hv : d.v i = .int .i64 q := by rfl) : @AK.Ok d P (.sli t (.slice none 0 1) (some (.float fk i)) none none) (.slice none 0 1) := by
  subst h
  refine asm_sli ?_
  show sliceA P t (.slice none 0 1) (some (d.v i)) none none = some (.slice none 0 1)
  rw [hv]
  unfold sliceA
  simp only [hu, hs, boundA]
  simp
  rfl
theorem ghost_hr {w0 : World} {F : Nat → Prop} {E : Env} {B : HL} {w : World} (hr : HR0 P w0 F E (ofL B) w) (b : Nat) (hb : lkL B b = none) (T : TypeId) (ro : Bool) : HR0 P w0 F E (ofL (B ++ [(b, rowOr T [] ro)])) w := @ghostD P den0 _ _ _ _ _ hr b hb T 0 ro rfl
theorem ctr_ghost {g : FuncId} {args : List Value} {A : HL} {res : Value} {B : HL} (h : Ctr P g args A res B) (b : Nat) (T : TypeId) (ro : Bool) (hb : lkL B b = none) (hA : lkL A b = none) : Ctr P g args A res (B ++ [(b, rowOr T [] ro)]) := by
  refine ⟨h.1, fun w F E args' hr hl Fe n hW => (h.2 w F E args' hr hl Fe n hW).mono fun e w' ⟨v', E', k1, k2, k3, k4⟩ => ⟨v', E', k1, fun i x hi hbi => ?_, ghost_hr k3 b hb T ro, k4⟩⟩
  refine k2 i x hi ?_
  rw [lkL_app] at hbi
  cases hx : lkL B i with
  | some o => rfl
  | none =>
    rw [hx] at hbi
    simp only [lkL] at hbi
    cases hb2 : Nat.beq b i with
    | true =>
      have := beq_iff.1 hb2; subst this
      have := @HR.dom den0 _ _ _ _ _ _ hr b x hi
      rw [get_ofL, hA] at this
      exact absurd rfl this
    | false => rw [hb2] at hbi; cases hbi
end Go.Sx
namespace Go.Proofs.Ytpennfojidpmeaa
open Go.Sx
set_option maxRecDepth 20000
theorem ldE2 {α : Type} [Inhabited α] {f : α → List Value} {n : Nat} (hf : ∀ a, (f a).length = n) {d : Den} {t kk id j : Nat} {vs : List Value} {S : List α} {k i : Nat} (ha : aggB Try.prog t = some true) (hs : sizeB Try.prog t = some n) (hi : k + i < S.length) (ho : d.o kk = .pointer (some ⟨id, k * n + i * n, none⟩)) (hj : d.row j = enc f S) (hcv : mapO (@cv d [] 5) vs = some (f (gt S (k + i)))) : @LdE.Ok d Try.prog ⟨t, kk, id, j, .agg vs.toArray⟩ :=
  ldE hf ha hs hi (ho.trans (by rw [Nat.zero_add, Nat.add_mul])) hj hcv
def stop (d : Dv) : Bool := d.cut && d.left == 0
def write1 (d : Dv) (p : Int) (s : Sec) : Dv := ⟨d.n, if stop d then d.S else d.S.set p.toNat s, d.e, d.nd, d.cut, if d.cut && !(stop d) then d.left - 1 else d.left, if stop d then true else d.lost, if stop d then d.done else d.done + 1⟩
def write2 (d : Dv) (p : Int) (a b : Sec) : Dv := write1 (write1 d p a) (p + 1) b
def LeftOK (d : Dv) : Prop := d.cut = true → 0 ≤ d.left ∧ d.left ≤ 1000000
theorem dwrite1_ok {d : Dv} (hd : DOK d) {n ep p : Int} (hn : 0 ≤ n ∧ n < d.nd) (hp : 0 ≤ p ∧ p + 1 ≤ d.n) (he : ep = d.e n.toNat) (hl : LeftOK d) (a : Sec) : Ctr Try.prog 65 [pt 0 0, iv n, iv ep, iv p, .slice (some ⟨2, 0, none⟩) 1 1] (devH d false ++ [(2, .row 114 (.lst (secL a)) true)]) (iv 0) (devH (write1 d p a) false) := by
  by_cases hc : d.cut = true
  · have ⟨h1, h2⟩ := hl hc
    by_cases h0 : d.left = 0
    · rw [show write1 d p a = { d with lost := true } from by simp [write1, stop, hc, h0]]
      exact dwrite1B hd hn hp hc h0 he a
    · rw [show write1 d p a = { d with S := d.S.set (p + 0).toNat a, left := d.left - 1, done := d.done + 1 } from by simp [write1, stop, hc, h0]]
      exact dwrite1D hd hn hp hc ⟨by omega, h2⟩ he a
  · rw [show write1 d p a = { d with S := d.S.set (p + 0).toNat a, done := d.done + 1 } from by simp [write1, stop, hc]]
    exact dwrite1A hd hn hp (by simpa using hc) he a
theorem dwrite2_ok {d : Dv} (hd : DOK d) {n ep p : Int} (hn : 0 ≤ n ∧ n < d.nd) (hp : 0 ≤ p ∧ p + 2 ≤ d.n) (he : ep = d.e n.toNat) (hl : LeftOK d) (a b : Sec) : Ctr Try.prog 65 [pt 0 0, iv n, iv ep, iv p, .slice (some ⟨2, 0, none⟩) 2 2] (devH d false ++ [(2, .row 125 (.lst (secL a ++ secL b)) true)]) (iv 0) (devH (write2 d p a b) false) := by
  by_cases hc : d.cut = true
  · have ⟨h1, h2⟩ := hl hc
    by_cases h0 : d.left = 0
    · rw [show write2 d p a b = { d with lost := true } from by simp [write2, write1, stop, hc, h0]]
      exact dwrite2B hd hn hp hc h0 he a b
    · by_cases h3 : d.left = 1
      · rw [show write2 d p a b = { d with S := d.S.set (p + 0).toNat a, left := d.left - 1, lost := true, done := d.done + 1 } from by simp [write2, write1, stop, hc, h3]]
        exact dwrite2C hd hn hp hc h3 he a b
      · have h4 : ¬ d.left - 1 = 0 := by omega
        rw [show write2 d p a b = { d with S := (d.S.set (p + 0).toNat a).set (p + 1).toNat b, left := d.left - 1 - 1, done := d.done + 1 + 1 } from by simp [write2, write1, stop, hc, h0, h4]]
        exact dwrite2D hd hn hp hc ⟨by omega, h2⟩ he a b
  · rw [show write2 d p a b = { d with S := (d.S.set (p + 0).toNat a).set (p + 1).toNat b, done := d.done + 1 + 1 } from by simp [write2, write1, stop, hc]]
    exact dwrite2A hd hn hp (by simpa using hc) he a b
theorem write1_ok {d : Dv} (hd : DOK d) (hl : LeftOK d) (p : Int) {s : Sec} (hs : Byte s) (hx : d.done ≤ 999999999) : DOK (write1 d p s) ∧ LeftOK (write1 d p s) ∧ (write1 d p s).done ≤ d.done + 1 := by
  have hb : ∀ x ∈ d.S.set p.toNat s, Byte x := fun x hx => by
    rcases List.mem_or_eq_of_mem_set hx with h | h
    · exact hd.by' x h
    · rw [h]; exact hs
  have ⟨g1, g2⟩ := hd.dn
  refine ⟨⟨?_, hd.nb, hd.nd, hd.ep, ?_, ?_⟩, ?_, ?_⟩
  · show (if stop d then d.S else d.S.set p.toNat s).length = d.n
    split
    · exact hd.len
    · rw [List.length_set]; exact hd.len
  · show 0 ≤ (if stop d then d.done else d.done + 1) ∧ (if stop d then d.done else d.done + 1) ≤ _
    split <;> omega
  · show ∀ x ∈ (if stop d then d.S else d.S.set p.toNat s), Byte x
    split
    · exact hd.by'
    · exact hb
  · intro hc
    have hc : d.cut = true := hc
    have ⟨h1, h2⟩ := hl hc
    show 0 ≤ (if d.cut && !(stop d) then d.left - 1 else d.left) ∧ (if d.cut && !(stop d) then d.left - 1 else d.left) ≤ _
    split
    · rename_i h
      simp [stop, hc] at h
      omega
    · exact ⟨h1, h2⟩
  · show (if stop d then d.done else d.done + 1) ≤ _
    split <;> omega
theorem write2_ok {d : Dv} (hd : DOK d) (hl : LeftOK d) (p : Int) {a b : Sec} (ha : Byte a) (hb : Byte b) (hx : d.done ≤ 999999998) : DOK (write2 d p a b) ∧ LeftOK (write2 d p a b) ∧ (write2 d p a b).done ≤ d.done + 2 := by
  obtain ⟨a1, a2, a3⟩ := write1_ok hd hl p ha (by omega)
  obtain ⟨b1, b2, b3⟩ := write1_ok a1 a2 (p + 1) hb (by omega)
  exact ⟨b1, b2, by unfold write2; omega⟩
theorem half_byte {r : Rec} (hb : Byte r.body) {h : Nat} (hh : h ≤ 1) : Byte (half r h) := by
  intro i
  unfold half
  have := hb (48 * h + (i - 14))
  repeat' split
  all_goals omega
theorem headS_byte (s e : Int) : Byte (headS s e) := by
  intro i
  unfold headS
  repeat' split
  all_goals omega
theorem cloneR_empN {n o cp : Nat} (hn : n = 0) : Ctr Try.prog 68 [.slice (some ⟨1, o, none⟩) n cp] [(1, .dead)] (.slice none 0 1) [(1, .dead)] := by subst hn; exact Ctr.addDead cloneR_emp 1 rfl
def kF (l : Lo) : Nat := (l.flushed - l.start + 1).toNat
def flushD (l : Lo) : List Rec → Dv → Dv
  | [], d => d
  | r :: rs, d => flushD l rs (write2 d (recAt l.j l.node r.lsn) (half r 0) (half r 1))
def logP (l : Lo) (rid : Nat) (ro : Bool) : HL := [(2, .row 62 (.lst (pt 0 0 :: (logC l ++ [.slice (some ⟨rid, 0, none⟩) l.L.length INF]))) ro), (rid, .row 47 (.lst (enc recL l.L)) ro)]
theorem enc_ne {L : List Rec} (h : 1 ≤ L.length) : enc recL L ≠ [] := by
  cases L with
  | nil => simp at h
  | cons a L => intro h; cases h
theorem logA_pos {l : Lo} {rid : Nat} {ro : Bool} (h : 1 ≤ l.L.length) : logA l rid ro = logP l rid ro := by
  unfold logA logP logRow
  rw [mSl_pos h, rowOr_pos (enc_ne h)]
noncomputable abbrev dFl (d : Dv) (l : Lo) (i : Nat) (fl : Int) : Den := denQ (devC d ++ logC { l with flushed := fl } ++ [iv ((l.L.length - kF l : Nat) : Int), iv (i : Int)]) rfl [.v (.slice (some ⟨1, 0, none⟩) d.n d.n), .v (.slice (some ⟨3, 0, none⟩) l.L.length INF), .v (.slice (some ⟨3, kF l * 101, none⟩) (l.L.length - kF l) (INF - kF l))] rfl [enc secL d.S, enc recL l.L] (PL.cons (enc_plain secL_plain _) (PL.cons (enc_plain recL_plain _) no_rows))
noncomputable def xFl : Cfg := headC (hd 17 0) .normal [(0, pt 2 0), (26, ch 2), (27, sv 22), (28, sv 23)] 73 4 [(0, .row 95 (.lst (ch 0 :: svs 0 13)) false), (1, .orow 114 0 false), (2, .row 62 (.lst (pt 0 0 :: (svs 13 9 ++ [ch 1]))) false), (3, .orow 47 1 false)]
abbrev GFl (A : HL) (d : Dv) (l : Lo) (i : Nat) (fl : Int) (res : Value) (B : HL) : Prop := GoodS (dFl d l i fl) Try.prog 17 A res B [0, 1, 2, 3] xFl
section
variable {l : Lo} {d : Dv} {i : Nat} {fl : Int} {d0 : Dv} {l0 : Lo}
theorem fl_end (h : l.L.length - kF l ≤ i) : GFl (devH d0 false ++ logP l0 3 false) d l i fl (iv 0) (devH d false ++ logP { l with flushed := fl } 3 false) := by
  · exact gF (denQ (devC d ++ logC { l with flushed := fl } ++ [.int .i64 (((l.L.length - kF l : Nat) : Int)), .int .i64 ((i : Int))]) rfl [.v (.slice (some ⟨1, 0, none⟩) d.n d.n), .v (.slice (some ⟨3, 0, none⟩) l.L.length INF), .v (.slice (some ⟨3, kF l * 101, none⟩) (l.L.length - kF l) (INF - kF l))] rfl [enc secL d.S, enc recL l.L] (PL.cons (enc_plain secL_plain _) (PL.cons (enc_plain recL_plain _) no_rows))) ⟨[(.bin .lss 3 (sv 23) (sv 22), .bool false)], [], []⟩ [] ⟨qF (((i : Int)) < (((l.L.length - kF l : Nat) : Int))) (by omega), trivial⟩ trivial trivial trivial 10 [(0, 0), (1, 1), (2, 2), (3, 3)]
theorem fl_ok (hk : kF l + i < l.L.length) (hL : l.L.length ≤ 64) (hm : May (gt l.L (kF l + i))) (hra : Ctr Try.prog 64 [jobV l.j, iv l.node, iv (gt l.L (kF l + i)).lsn] [] (.tuple #[iv (recAt l.j l.node (gt l.L (kF l + i)).lsn), iv 0]) [])
    (hw : Ctr Try.prog 65 [pt 0 0, iv l.node, iv l.epoch, iv (recAt l.j l.node (gt l.L (kF l + i)).lsn), .slice (some ⟨2, 0, none⟩) 2 2] (devH d false ++ [(2, .row 125 (.lst (secL (half (gt l.L (kF l + i)) 0) ++ secL (half (gt l.L (kF l + i)) 1))) true)]) (iv 0) (devH (write2 d (recAt l.j l.node (gt l.L (kF l + i)).lsn) (half (gt l.L (kF l + i)) 0) (half (gt l.L (kF l + i)) 1)) false)) {res : Value} {B : HL}
    (hg : GFl (devH d0 false ++ logP l0 3 false) (write2 d (recAt l.j l.node (gt l.L (kF l + i)).lsn) (half (gt l.L (kF l + i)) 0) (half (gt l.L (kF l + i)) 1)) l (i + 1) (gt l.L (kF l + i)).lsn res B) : GFl (devH d0 false ++ logP l0 3 false) d l i fl res B := by
  · exact gS (denQ (devC d ++ logC { l with flushed := fl } ++ [.int .i64 (((l.L.length - kF l : Nat) : Int)), .int .i64 ((i : Int))] ++ recL (gt l.L (kF l + (((i : Int)) : Int).toNat)) ++ secL (half (gt l.L (kF l + i)) 0) ++ secL (half (gt l.L (kF l + i)) 1) ++ [.int .i64 (recAt l.j l.node (gt l.L (kF l + i)).lsn)] ++ devC (write2 d (recAt l.j l.node (gt l.L (kF l + i)).lsn) (half (gt l.L (kF l + i)) 0) (half (gt l.L (kF l + i)) 1)) ++ [.int .i64 (((i : Int)) + (1))]) rfl [.v (.slice (some ⟨1, 0, none⟩) d.n d.n), .v (.slice (some ⟨3, 0, none⟩) l.L.length INF), .v (.slice (some ⟨3, kF l * 101, none⟩) (l.L.length - kF l) (INF - kF l)), .v (.pointer (some ⟨3, kF l * 101 + (((i : Int)) : Int).toNat * 101, none⟩))] rfl [enc secL d.S, enc recL l.L, enc secL (write2 d (recAt l.j l.node (gt l.L (kF l + i)).lsn) (half (gt l.L (kF l + i)) 0) (half (gt l.L (kF l + i)) 1)).S] (PL.cons (enc_plain secL_plain _) (PL.cons (enc_plain recL_plain _) (PL.cons (enc_plain secL_plain _) no_rows)))) (dFl (write2 d (recAt l.j l.node (gt l.L (kF l + i)).lsn) (half (gt l.L (kF l + i)) 0) (half (gt l.L (kF l + i)) 1)) l (i + 1) (gt l.L (kF l + i)).lsn) ⟨[(.bin .lss 3 (sv 23) (sv 22), .bool true), (.ixa 43 (.chan (some 2)) (sv 23), .chan (some 3)), (.bin .add 3 (sv 23) (.int .i64 1), sv 267)], [⟨47, 3, 3, 1, vA 24 101⟩], []⟩ [(63, [⟨[.agg (svs 24 101).toArray], 5, [], [], [], .tuple #[.agg (svs 125 128).toArray, .int .i64 0]⟩]), (64, [⟨[.agg #[sv 13, sv 14, sv 15, sv 16, sv 17], sv 18, sv 26], 6, [], [], [], .tuple #[sv 253, .int .i64 0]⟩]), (65, [⟨[.pointer (some ⟨0, 0, none⟩), sv 18, sv 19, sv 253, .slice (some ⟨5, 0, none⟩) 2 2], 6, [], [⟨0, 0, false, .row 95 (.lst ([.chan (some 0)] ++ svs 0 13)) false, .row 95 (.lst ([.chan (some 0)] ++ svs 254 13)) false⟩, ⟨1, 1, false, .orow 114 0 false, .orow 114 2 false⟩, ⟨5, 2, true, .row 125 (.lst (svs 125 128)) false, .row 125 (.lst (svs 125 128)) false⟩], [], .int .i64 0⟩])] ⟨qT (((i : Int)) < (((l.L.length - kF l : Nat) : Int))) (by omega), asIxa u43 z47 rfl rfl (by omega) (by omega) rfl rfl, aq (.int .i64 (((i : Int)) + (1))) (.int .i64 (IntKind.i64.wrap (((i : Int)) + (1)))) (wVi64 (((i : Int)) + (1)) (by omega) (by omega)), trivial⟩ ⟨ldE2 recL_len a47 z47 (k := kF l) (i := (((i : Int)) : Int).toNat) (by omega) rfl rfl (by kernel_rfl), trivial⟩ trivial ⟨oe (put_ctr hm), oe hra, oe hw, trivial⟩ 20 [(0, 0), (1, 1), (2, 2), (3, 3)] hg
end
theorem fl_all {l : Lo} (hl : LOK l) {d0 : Dv} {l0 : Lo} : ∀ (k i : Nat) (d : Dv) (fl : Int), kF l + i + k = l.L.length → fl = l.flushed + i → DOK d → LeftOK d → d.done + 2 * k ≤ 900000000 → sects l.j = d.n → l.node < d.nd → (0 < k → l.epoch = d.e l.node.toNat) →
    GFl (devH d0 false ++ logP l0 3 false) d l i fl (iv 0) (devH (flushD l (l.L.drop (kF l + i)) d) false ++ logP { l with flushed := l.start + l.L.length - 1 } 3 false)
  | 0, i, d, fl, hi, hf, hd, hlo, hdn, hs, hnd, he => by
    have hfl := hl.fl
    have hL := hl.ln
    have h64 := hl.j.l
    rw [List.drop_eq_nil_of_le (by omega)]
    have : fl = l.start + l.L.length - 1 := by unfold kF at hi; omega
    rw [← this]
    exact fl_end (by omega)
  | k + 1, i, d, fl, hi, hf, hd, hlo, hdn, hs, hnd, he => by
    have hfl := hl.fl
    have hL := hl.ln
    have h64 := hl.j.l
    have hlt : kF l + i < l.L.length := by omega
    have hget : l.L[kF l + i]? = some l.L[kF l + i] := by simp [hlt]
    have hmem : gt l.L (kF l + i) ∈ l.L := by unfold gt; rw [hget]; exact List.getElem_mem hlt
    have hm := hl.may _ hmem
    have hb := hl.by' _ hmem
    have hls := hl.lsn (kF l + i) hlt
    have hst := hl.st
    have hnn := hl.j.n
    have hra := record_ctr hl.j hl.nd (k := (gt l.L (kF l + i)).lsn) hm.l
    have hbd := recAt_bd hl.j hl.nd (gt l.L (kF l + i)).lsn
    have hw := dwrite2_ok hd (n := l.node) (ep := l.epoch) (p := recAt l.j l.node (gt l.L (kF l + i)).lsn) ⟨hl.nd.1, hnd⟩ (by omega) (he (Nat.succ_pos _)) hlo (half (gt l.L (kF l + i)) 0) (half (gt l.L (kF l + i)) 1)
    obtain ⟨w1, w2, w3⟩ := write2_ok hd hlo (recAt l.j l.node (gt l.L (kF l + i)).lsn) (half_byte hb (h := 0) (by decide)) (half_byte hb (h := 1) (by decide)) (by omega)
    rw [List.drop_eq_getElem_cons hlt]
    have e : l.L[kF l + i] = gt l.L (kF l + i) := by unfold gt; rw [hget]; rfl
    rw [e]
    refine fl_ok hlt (by omega) hm hra hw ?_
    exact fl_all hl k (i + 1) _ _ (by omega) (by rw [hls]; unfold kF; omega) w1 w2 (by omega) hs hnd (fun _ => he (Nat.succ_pos _))
section
variable {l : Lo} (hl : LOK l) {d : Dv} (hd : DOK d)
include hl hd
omit hd in
theorem fl_start {res : Value} {B : HL} (hg : GFl (devH d false ++ logP l 3 false) d l 0 l.flushed res B) : Ctr Try.prog 17 [pt 2 0] (devH d false ++ logP l 3 false) res B := by
  have hj := hl.j
  have ⟨d1, d2⟩ := hj.l
  have ⟨n1, n2⟩ := hj.n
  have ⟨p1, p2⟩ := hj.p
  have ⟨t1, t2⟩ := hl.st
  have ⟨f1, f2⟩ := hl.fl
  have ⟨l1, l2⟩ := hl.ln
  have ⟨e1, e2⟩ := hl.ep
  have ⟨q1, q2⟩ := hl.nd
  have hkf : kF l ≤ l.L.length := by unfold kF; omega
  · exact g0 (denQ (devC d ++ logC l ++ [.int .i64 ((l.flushed) - (l.start)), .int .i64 (((l.flushed) - (l.start)) + (1)), .int .i64 (((l.L.length - kF l : Nat) : Int))]) rfl [.v (.slice (some ⟨1, 0, none⟩) d.n d.n), .v (.slice (some ⟨3, 0, none⟩) l.L.length INF), .v (.slice (some ⟨3, kF l * 101, none⟩) (l.L.length - kF l) (INF - kF l))] rfl [enc secL d.S, enc recL l.L] (PL.cons (enc_plain secL_plain _) (PL.cons (enc_plain recL_plain _) no_rows))) (dFl d l 0 l.flushed) ⟨[(.bin .sub 2 (sv 21) (sv 20), sv 22), (.bin .add 2 (sv 22) (.int .i64 1), sv 23), (.sli 43 (.chan (some 1)) (some (sv 23)) none none, .chan (some 2)), (.len 43 (.chan (some 2)), sv 24)], [], []⟩ [] ⟨aq (.int .i64 ((l.flushed) - (l.start))) (.int .i64 (IntKind.i64.wrap ((l.flushed) - (l.start)))) (wVi64 ((l.flushed) - (l.start)) (by omega) (by omega)), aq (.int .i64 (((l.flushed) - (l.start)) + (1))) (.int .i64 (IntKind.i64.wrap (((l.flushed) - (l.start)) + (1)))) (wVi64 (((l.flushed) - (l.start)) + (1)) (by omega) (by omega)), asSliP u43 z47 rfl rfl (by omega) (by omega) (by omega) rfl, asLen u43 rfl (by kernel_rfl), trivial⟩ trivial trivial trivial 11 4 ([(0, .row 95 (.lst (ch 0 :: svs 0 13)) false), (1, .orow 114 0 false)] ++ [(2, .row 62 (.lst (pt 0 0 :: (svs 13 9 ++ [ch 1]))) false), (3, .orow 47 1 false)]) [pt 2 0] [(0, 0), (1, 1), (2, 2), (3, 3)] hg
theorem flush_ok (hlo : LeftOK d) (hdn : d.done ≤ 800000000) (hs : sects l.j = d.n) (hnd : l.node < d.nd) (he : kF l < l.L.length → l.epoch = d.e l.node.toNat) : Ctr Try.prog 17 [pt 2 0] (devH d false ++ logA l 3 false) (iv 0) (devH (flushD l (l.L.drop (kF l)) d) false ++ logA { l with flushed := l.start + l.L.length - 1 } 3 false) := by
  have hj := hl.j
  have ⟨d1, d2⟩ := hj.l
  have ⟨n1, n2⟩ := hj.n
  have ⟨p1, p2⟩ := hj.p
  have ⟨t1, t2⟩ := hl.st
  have ⟨f1, f2⟩ := hl.fl
  have ⟨l1, l2⟩ := hl.ln
  have ⟨e1, e2⟩ := hl.ep
  have ⟨q1, q2⟩ := hl.nd
  have hkf : kF l ≤ l.L.length := by unfold kF; omega
  by_cases h0 : 1 ≤ l.L.length
  · rw [logA_pos h0, logA_pos (l := { l with flushed := l.start + l.L.length - 1 }) h0]
    have hg := fl_all hl (d0 := d) (l0 := l) (l.L.length - kF l) 0 d l.flushed (by omega) (by omega) hd hlo (by omega) hs hnd (fun h => he (by omega))
    exact fl_start hl hg
  · have hf : l.flushed = l.start + l.L.length - 1 := by omega
    have hL0 : l.L = [] := List.eq_nil_of_length_eq_zero (by omega)
    have e1 : l.L.drop (kF l) = [] := by rw [hL0]; simp
    have e2 : ({ l with flushed := l.start + l.L.length - 1 } : Lo) = l := by rw [← hf]
    rw [e1, e2]
    unfold logA logRow
    rw [hL0]
    have hfs : l.flushed - l.start + 1 = 0 := by rw [hL0] at hf; simp at hf; omega
    exact pth (denQ (devC d ++ logC l ++ [.int .i64 ((l.flushed) - (l.start)), .int .i64 (((l.flushed) - (l.start)) + (1))]) rfl [.v (.slice (some ⟨1, 0, none⟩) d.n d.n)] rfl [enc secL d.S, enc recL []] (PL.cons (enc_plain secL_plain _) (PL.cons (enc_plain recL_plain _) no_rows))) ⟨[(.bin .sub 2 (sv 21) (sv 20), sv 22), (.bin .add 2 (sv 22) (.int .i64 1), sv 23), (.sli 43 (.slice none 0 1) (some (sv 23)) none none, .slice none 0 1)], [], []⟩ [] ⟨aq (.int .i64 ((l.flushed) - (l.start))) (.int .i64 (IntKind.i64.wrap ((l.flushed) - (l.start)))) (wVi64 ((l.flushed) - (l.start)) (by omega) (by omega)), aq (.int .i64 (((l.flushed) - (l.start)) + (1))) (.int .i64 (IntKind.i64.wrap (((l.flushed) - (l.start)) + (1)))) (wVi64 (((l.flushed) - (l.start)) + (1)) (by omega) (by omega)), asSliW (q := ((l.flushed) - (l.start)) + (1)) u43 z47 (by omega), trivial⟩ trivial trivial trivial 4 ([(0, .row 95 (.lst (ch 0 :: svs 0 13)) false), (1, .orow 114 0 false)] ++ [(2, .row 62 (.lst (pt 0 0 :: (svs 13 9 ++ [.slice none 0 1]))) false), (3, .mrow 47 1 false)]) [pt 2 0] [(0, 0), (1, 1), (2, 2), (3, 3)]
def cutM (l : Lo) (v : Int) : Lo := { l with start := v, L := l.L.drop (v - l.start).toNat }
theorem cut_ok {v : Int} (hv : l.start ≤ v ∧ v ≤ l.flushed + 1) (hs : sects l.j = d.n) (hnd : l.node < d.nd) (hlo : LeftOK d) (he : l.epoch = d.e l.node.toNat) : Ctr Try.prog 18 [pt 2 0, iv v] (devH d false ++ logA l 3 false) (iv 0) (devH (write1 d (headAt l.j l.node) (headS v l.epoch)) false ++ logA (cutM l v) 4 false) := by
  have hj := hl.j
  have ⟨d1, d2⟩ := hj.l
  have ⟨n1, n2⟩ := hj.n
  have ⟨p1, p2⟩ := hj.p
  have ⟨t1, t2⟩ := hl.st
  have ⟨f1, f2⟩ := hl.fl
  have ⟨l1, l2⟩ := hl.ln
  have ⟨e1, e2⟩ := hl.ep
  have ⟨q1, q2⟩ := hl.nd
  have ⟨v1, v2⟩ := hv
  have hph := puth_ctr (s := v) (e := l.epoch) (by omega) (by omega) e1 e2
  have hha := head_ctr hj hl.nd
  have hbd := recAt_bd hl.j hl.nd 1
  have hb2 := headAt_bd hj (n := l.node) ⟨q1, by omega⟩
  have hq : headAt l.j l.node + 1 ≤ sects l.j := by have := Int.emod_nonneg (1 - 1) (b := l.j.log) (by omega); unfold recAt at hbd; omega
  have hw := dwrite1_ok hd (n := l.node) (ep := l.epoch) (p := headAt l.j l.node) ⟨hl.nd.1, hnd⟩ (by omega) he hlo (headS v l.epoch)
  by_cases hz : l.L.length - (v - l.start).toNat = 0
  · have e0 : l.L.drop (v - l.start).toNat = [] := List.drop_eq_nil_of_le (by omega)
    unfold cutM
    rw [e0]
    suffices h : Ctr Try.prog 18 [pt 2 0, iv v] (devH d false ++ logA l 3 false) (iv 0) (devH (write1 d (headAt l.j l.node) (headS v l.epoch)) false ++ [(2, .row 62 (.lst (logRow { l with start := v, L := [] } 4)) false)]) from Ctr.cast (ctr_ghost h 4 47 false rfl rfl) rfl rfl rfl (by kernel_rfl)
    by_cases h0 : 1 ≤ l.L.length
    · rw [logA_pos h0]
      exact pth (denQ ([.int .i64 (v)] ++ devC d ++ logC l ++ [.int .i64 ((l.flushed) + (1))] ++ secL (headS v l.epoch) ++ [.int .i64 (headAt l.j l.node)] ++ devC (write1 d (headAt l.j l.node) (headS v l.epoch)) ++ [.int .i64 ((v) - (l.start))]) rfl [.v (.slice (some ⟨1, 0, none⟩) d.n d.n), .v (.slice (some ⟨3, 0, none⟩) l.L.length INF), .v (.slice (some ⟨3, (v - l.start).toNat * 101, none⟩) (l.L.length - (v - l.start).toNat) (INF - (v - l.start).toNat))] rfl [enc secL d.S, enc recL l.L, enc secL (write1 d (headAt l.j l.node) (headS v l.epoch)).S] (PL.cons (enc_plain secL_plain _) (PL.cons (enc_plain recL_plain _) (PL.cons (enc_plain secL_plain _) no_rows)))) ⟨[(.bin .lss 2 (sv 0) (sv 21), .bool false), (.bin .add 2 (sv 22) (.int .i64 1), sv 23), (.bin .gtr 2 (sv 0) (sv 23), .bool false), (.bin .sub 2 (sv 0) (sv 21), sv 102), (.sli 43 (.chan (some 1)) (some (sv 102)) none none, .chan (some 2))], [], []⟩ [(66, [⟨[.agg #[sv 0, sv 20]], 5, [], [], [], .tuple #[.agg (svs 24 64).toArray, .int .i64 0]⟩]), (67, [⟨[.agg #[sv 14, sv 15, sv 16, sv 17, sv 18], sv 19], 6, [], [], [], .tuple #[sv 88, .int .i64 0]⟩]), (65, [⟨[.pointer (some ⟨0, 0, none⟩), sv 19, sv 20, sv 88, .slice (some ⟨6, 0, none⟩) 1 1], 7, [], [⟨0, 0, false, .row 95 (.lst ([.chan (some 0)] ++ svs 1 13)) false, .row 95 (.lst ([.chan (some 0)] ++ svs 89 13)) false⟩, ⟨1, 1, false, .orow 114 0 false, .orow 114 2 false⟩, ⟨6, 2, true, .row 114 (.lst (svs 24 64)) false, .row 114 (.lst (svs 24 64)) false⟩], [], .int .i64 0⟩]), (68, [⟨[.chan (some 2)], 7, [(3, 1)], [], [], .slice none 0 1⟩])] ⟨qF ((v) < (l.start)) (by omega), aq (.int .i64 ((l.flushed) + (1))) (.int .i64 (IntKind.i64.wrap ((l.flushed) + (1)))) (wVi64 ((l.flushed) + (1)) (by omega) (by omega)), qF ((v) > ((l.flushed) + (1))) (by omega), aq (.int .i64 ((v) - (l.start))) (.int .i64 (IntKind.i64.wrap ((v) - (l.start)))) (wVi64 ((v) - (l.start)) (by omega) (by omega)), asSliP u43 z47 rfl rfl (by omega) (by omega) (by omega) rfl, trivial⟩ trivial trivial ⟨oe hph, oe hha, oe hw, oe (cloneR_empN (o := (v - l.start).toNat * 101) (cp := INF - (v - l.start).toNat) hz), trivial⟩ 4 ([(0, .row 95 (.lst (ch 0 :: svs 1 13)) false), (1, .orow 114 0 false)] ++ [(2, .row 62 (.lst (pt 0 0 :: (svs 14 9 ++ [ch 1]))) false), (3, .orow 47 1 false)]) [pt 2 0, sv 0] [(0, 0), (1, 1), (2, 2)]
    · have hL0 : l.L = [] := List.eq_nil_of_length_eq_zero (by omega)
      have hvs : v - l.start = 0 := by rw [hL0] at f2 hz; simp at f2; omega
      unfold logA logRow
      rw [hL0]
      exact pth (denQ ([.int .i64 (v)] ++ devC d ++ logC l ++ [.int .i64 ((l.flushed) + (1))] ++ secL (headS v l.epoch) ++ [.int .i64 (headAt l.j l.node)] ++ devC (write1 d (headAt l.j l.node) (headS v l.epoch)) ++ [.int .i64 ((v) - (l.start))]) rfl [.v (.slice (some ⟨1, 0, none⟩) d.n d.n)] rfl [enc secL d.S, enc recL [], enc secL (write1 d (headAt l.j l.node) (headS v l.epoch)).S] (PL.cons (enc_plain secL_plain _) (PL.cons (enc_plain recL_plain _) (PL.cons (enc_plain secL_plain _) no_rows)))) ⟨[(.bin .lss 2 (sv 0) (sv 21), .bool false), (.bin .add 2 (sv 22) (.int .i64 1), sv 23), (.bin .gtr 2 (sv 0) (sv 23), .bool false), (.bin .sub 2 (sv 0) (sv 21), sv 102), (.sli 43 (.slice none 0 1) (some (sv 102)) none none, .slice none 0 1)], [], []⟩ [(66, [⟨[.agg #[sv 0, sv 20]], 5, [], [], [], .tuple #[.agg (svs 24 64).toArray, .int .i64 0]⟩]), (67, [⟨[.agg #[sv 14, sv 15, sv 16, sv 17, sv 18], sv 19], 6, [], [], [], .tuple #[sv 88, .int .i64 0]⟩]), (65, [⟨[.pointer (some ⟨0, 0, none⟩), sv 19, sv 20, sv 88, .slice (some ⟨6, 0, none⟩) 1 1], 7, [], [⟨0, 0, false, .row 95 (.lst ([.chan (some 0)] ++ svs 1 13)) false, .row 95 (.lst ([.chan (some 0)] ++ svs 89 13)) false⟩, ⟨1, 1, false, .orow 114 0 false, .orow 114 2 false⟩, ⟨6, 2, true, .row 114 (.lst (svs 24 64)) false, .row 114 (.lst (svs 24 64)) false⟩], [], .int .i64 0⟩]), (68, [⟨[.slice none 0 1], 7, [], [], [], .slice none 0 1⟩])] ⟨qF ((v) < (l.start)) (by omega), aq (.int .i64 ((l.flushed) + (1))) (.int .i64 (IntKind.i64.wrap ((l.flushed) + (1)))) (wVi64 ((l.flushed) + (1)) (by omega) (by omega)), qF ((v) > ((l.flushed) + (1))) (by omega), aq (.int .i64 ((v) - (l.start))) (.int .i64 (IntKind.i64.wrap ((v) - (l.start)))) (wVi64 ((v) - (l.start)) (by omega) (by omega)), asSliW (q := (v) - (l.start)) u43 z47 (by omega), trivial⟩ trivial trivial ⟨oe hph, oe hha, oe hw, oe cloneR_weak, trivial⟩ 4 ([(0, .row 95 (.lst (ch 0 :: svs 1 13)) false), (1, .orow 114 0 false)] ++ [(2, .row 62 (.lst (pt 0 0 :: (svs 14 9 ++ [.slice none 0 1]))) false), (3, .mrow 47 1 false)]) [pt 2 0, sv 0] [(0, 0), (1, 1), (2, 2)]
  · have h0 : 1 ≤ l.L.length := by omega
    rw [logA_pos h0, logA_pos (l := cutM l v) (by show 1 ≤ (l.L.drop _).length; rw [List.length_drop]; omega)]
    unfold logP cutM
    simp only [List.length_drop]
    have hcl := cloneR_ctr (S := l.L) (i := (v - l.start).toNat) (m := l.L.length - (v - l.start).toNat) (cp := INF - (v - l.start).toNat) (by omega) (by omega) (by unfold HALF; omega)
    exact pth (denQ ([.int .i64 (v)] ++ devC d ++ logC l ++ [.int .i64 ((l.flushed) + (1))] ++ secL (headS v l.epoch) ++ [.int .i64 (headAt l.j l.node)] ++ devC (write1 d (headAt l.j l.node) (headS v l.epoch)) ++ [.int .i64 ((v) - (l.start))]) rfl [.v (.slice (some ⟨1, 0, none⟩) d.n d.n), .v (.slice (some ⟨3, 0, none⟩) l.L.length INF), .v (.slice (some ⟨3, (v - l.start).toNat * 101, none⟩) (l.L.length - (v - l.start).toNat) (INF - (v - l.start).toNat)), .v (.slice (some ⟨7, 0, none⟩) (l.L.length - (v - l.start).toNat) INF)] rfl [enc secL d.S, enc recL l.L, enc secL (write1 d (headAt l.j l.node) (headS v l.epoch)).S, enc recL (l.L.drop (v - l.start).toNat)] (PL.cons (enc_plain secL_plain _) (PL.cons (enc_plain recL_plain _) (PL.cons (enc_plain secL_plain _) (PL.cons (enc_plain recL_plain _) no_rows))))) ⟨[(.bin .lss 2 (sv 0) (sv 21), .bool false), (.bin .add 2 (sv 22) (.int .i64 1), sv 23), (.bin .gtr 2 (sv 0) (sv 23), .bool false), (.bin .sub 2 (sv 0) (sv 21), sv 102), (.sli 43 (.chan (some 1)) (some (sv 102)) none none, .chan (some 2))], [], []⟩ [(66, [⟨[.agg #[sv 0, sv 20]], 5, [], [], [], .tuple #[.agg (svs 24 64).toArray, .int .i64 0]⟩]), (67, [⟨[.agg #[sv 14, sv 15, sv 16, sv 17, sv 18], sv 19], 6, [], [], [], .tuple #[sv 88, .int .i64 0]⟩]), (65, [⟨[.pointer (some ⟨0, 0, none⟩), sv 19, sv 20, sv 88, .slice (some ⟨6, 0, none⟩) 1 1], 7, [], [⟨0, 0, false, .row 95 (.lst ([.chan (some 0)] ++ svs 1 13)) false, .row 95 (.lst ([.chan (some 0)] ++ svs 89 13)) false⟩, ⟨1, 1, false, .orow 114 0 false, .orow 114 2 false⟩, ⟨6, 2, true, .row 114 (.lst (svs 24 64)) false, .row 114 (.lst (svs 24 64)) false⟩], [], .int .i64 0⟩]), (68, [⟨[.chan (some 2)], 7, [], [⟨3, 1, true, .orow 47 1 false, .orow 47 1 false⟩], [(2, .orow 47 3 false)], .chan (some 3)⟩])] ⟨qF ((v) < (l.start)) (by omega), aq (.int .i64 ((l.flushed) + (1))) (.int .i64 (IntKind.i64.wrap ((l.flushed) + (1)))) (wVi64 ((l.flushed) + (1)) (by omega) (by omega)), qF ((v) > ((l.flushed) + (1))) (by omega), aq (.int .i64 ((v) - (l.start))) (.int .i64 (IntKind.i64.wrap ((v) - (l.start)))) (wVi64 ((v) - (l.start)) (by omega) (by omega)), asSliP u43 z47 rfl rfl (by omega) (by omega) (by omega) rfl, trivial⟩ trivial trivial ⟨oe hph, oe hha, oe hw, oe hcl, trivial⟩ 4 ([(0, .row 95 (.lst (ch 0 :: svs 1 13)) false), (1, .orow 114 0 false)] ++ [(2, .row 62 (.lst (pt 0 0 :: (svs 14 9 ++ [ch 1]))) false), (3, .orow 47 1 false)]) [pt 2 0, sv 0] [(0, 0), (1, 1), (2, 2), (7, 4)]
end
end Go.Proofs.Ytpennfojidpmeaa
namespace Go.Proofs.Ytpennfojidpmeaa
open Go.Sx
set_option maxRecDepth 20000
def Norm (r : Rec) : Prop := ∀ i, 96 ≤ i → r.body i = 0
theorem half_body (r : Rec) (h : Nat) {i : Nat} (h1 : 14 ≤ i) (h2 : i < 62) : half r h i = r.body (48 * h + (i - 14)) := by
  unfold half
  rw [if_neg (by omega), if_neg (by omega), if_neg (by omega), if_neg (by omega), if_neg (by omega), if_neg (by omega), if_neg (by omega), if_neg (by omega), if_neg (by omega), if_neg (by omega), if_neg (by omega), if_neg (by omega), if_neg (by omega), if_neg (by omega), if_pos h2]
theorem said_half {r : Rec} (h : May r) (hb : Byte r.body) (hn : Norm r) : said (half r 0) (half r 1) = r := by
  obtain ⟨node, epoch, lsn, page, psn, body⟩ := r
  obtain ⟨⟨n1, n2⟩, ⟨p1, p2⟩, ⟨e1, e2⟩, ⟨l1, l2⟩, ⟨s1, s2⟩⟩ := h
  simp only at n1 n2 p1 p2 e1 e2 l1 l2 s1 s2
  have hbody : (fun i => if i < 48 then half ⟨node, epoch, lsn, page, psn, body⟩ 0 (14 + i) else if i < 96 then half ⟨node, epoch, lsn, page, psn, body⟩ 1 (14 + (i - 48)) else 0) = body := by
    funext i
    by_cases h1 : i < 48
    · rw [if_pos h1, half_body _ _ (by omega) (by omega)]
      show body (48 * 0 + (14 + i - 14)) = body i
      congr 1; omega
    · rw [if_neg h1]
      by_cases h2 : i < 96
      · rw [if_pos h2, half_body _ _ (by omega) (by omega)]
        show body (48 * 1 + (14 + (i - 48) - 14)) = body i
        congr 1; omega
      · rw [if_neg h2]; exact (hn i (by omega)).symm
  unfold said
  rw [hbody]
  have e : ∀ x : Int, 0 ≤ x → x ≤ 2147483647 → x / 16777216 % 256 * 16777216 + x / 65536 % 256 * 65536 + x / 256 % 256 * 256 + x % 256 = x := by intro x h1 h2; omega
  show Rec.mk ((node * 16 + page) % 256 / 16) (epoch / 16777216 % 256 * 16777216 + epoch / 65536 % 256 * 65536 + epoch / 256 % 256 * 256 + epoch % 256) (lsn / 16777216 % 256 * 16777216 + lsn / 65536 % 256 * 65536 + lsn / 256 % 256 * 256 + lsn % 256) ((node * 16 + page) % 256 % 16) (psn / 16777216 % 256 * 16777216 + psn / 65536 % 256 * 65536 + psn / 256 % 256 * 256 + psn % 256) body = _
  rw [e epoch (by omega) e2, e lsn (by omega) l2, e psn (by omega) s2]
  have a1 : (node * 16 + page) % 256 / 16 = node := by omega
  have a2 : (node * 16 + page) % 256 % 16 = page := by omega
  rw [a1, a2]
theorem eqP_refl (a b : Sec) : eqP a b a b = true := by unfold eqP; rw [eqS_refl, eqS_refl]; rfl
theorem getM_half {r : Rec} (h : May r) (hb : Byte r.body) (hn : Norm r) : getM (half r 0) (half r 1) = some r := by
  unfold getM
  rw [said_half h hb hn, if_pos h, if_pos (eqP_refl _ _)]
theorem getM_zero (b : Sec) : getM zeroS b = none := by
  unfold getM
  rw [if_neg]
  intro h
  have := h.e
  simp [said, zeroS] at this
theorem headV_zero : headV zeroS = .tuple #[.agg #[iv 1, iv 0], iv 0] := by
  unfold headV
  rw [if_pos (eqS_refl _)]
  rfl
theorem headV_headS {s e : Int} (h1 : 1 ≤ s ∧ s ≤ 2147483647) (h2 : 1 ≤ e ∧ e ≤ 2147483647) : headV (headS s e) = .tuple #[.agg #[iv s, iv e], iv 0] := by
  have hz : ¬ eqS (headS s e) zeroS = true := by
    intro h
    have := eqS_iff.1 h 0 (by decide)
    simp [headS, zeroS] at this
  have a : ∀ x : Int, 0 ≤ x → x ≤ 2147483647 → x / 16777216 % 256 * 16777216 + x / 65536 % 256 * 65536 + x / 256 % 256 * 256 + x % 256 = x := by intro x h1 h2; omega
  have hs : hS (headS s e) = s := a s (by omega) h1.2
  have he : hE (headS s e) = e := a e (by omega) h2.2
  unfold headV
  rw [if_neg hz, hs, he, if_pos ⟨⟨by rw [hs]; exact h1.1, by rw [hs]; exact h1.2, by rw [he]; exact h2.1, by rw [he]; exact h2.2⟩, eqS_refl _⟩]
theorem gt_set {α : Type} [Inhabited α] (S : List α) (i j : Nat) (x : α) (hi : i < S.length) : gt (S.set i x) j = if i = j then x else gt S j := by
  unfold gt
  rw [List.getElem?_set]
  by_cases h : i = j
  · rw [if_pos h, if_pos h, if_pos hi]; rfl
  · rw [if_neg h, if_neg h]
theorem gt_app_lt {α : Type} [Inhabited α] (L M : List α) {i : Nat} (h : i < L.length) : gt (L ++ M) i = gt L i := by unfold gt; rw [List.getElem?_append_left h]
theorem gt_app_eq {α : Type} [Inhabited α] (L : List α) (x : α) : gt (L ++ [x]) L.length = x := by unfold gt; simp
theorem gt_drop {α : Type} [Inhabited α] (L : List α) (k i : Nat) : gt (L.drop k) i = gt L (k + i) := by unfold gt; rw [List.getElem?_drop]
theorem gt_mem {α : Type} [Inhabited α] {L : List α} {i : Nat} (h : i < L.length) : gt L i ∈ L := by unfold gt; rw [List.getElem?_eq_getElem h]; exact List.getElem_mem h
def at1 (d : Dv) (j : Jb) (n m : Int) : Sec := gt d.S (recAt j n m).toNat
def at2 (d : Dv) (j : Jb) (n m : Int) : Sec := gt d.S (recAt j n m + 1).toNat
def Chain : Int → List Rec → Prop
  | _, [] => True
  | le, r :: rs => le ≤ r.epoch ∧ Chain r.epoch rs
theorem chain_app : ∀ {le : Int} {L : List Rec} {x : Rec}, Chain le L → le ≤ x.epoch → (∀ r ∈ L, r.epoch ≤ x.epoch) → Chain le (L ++ [x])
  | _, [], _, _, h, _ => ⟨h, trivial⟩
  | _, r :: _, _, h, _, h3 => ⟨h.1, chain_app h.2 (h3 r List.mem_cons_self) fun q hq => h3 q (List.mem_cons_of_mem _ hq)⟩
theorem chain_take : ∀ {le : Int} {L : List Rec} (k : Nat), Chain le L → Chain le (L.take k)
  | _, [], k, _ => by rw [List.take_nil]; trivial
  | _, r :: rs, 0, _ => trivial
  | _, r :: rs, k + 1, h => ⟨h.1, chain_take k h.2⟩
theorem chain_const {e : Int} : ∀ {le : Int} {L : List Rec}, le ≤ e → (∀ r ∈ L, r.epoch = e) → Chain le L
  | _, [], _, _ => trivial
  | _, r :: rs, h, h2 => ⟨by rw [h2 r List.mem_cons_self]; exact h, chain_const (by rw [h2 r List.mem_cons_self]; exact Int.le_refl _) fun q hq => h2 q (List.mem_cons_of_mem _ hq)⟩
theorem scanL_eq {d : Dv} {j : Jb} {n : Int} : ∀ (L : List Rec) (k : Nat) (m le : Int), L.length ≤ k → Chain le L →
    (∀ t, t < L.length → m + t < 2147483647 ∧ getM (at1 d j n (m + t)) (at2 d j n (m + t)) = some (gt L t) ∧ (gt L t).node = n ∧ (gt L t).lsn = m + t ∧ (gt L t).page < j.pages) →
    (L.length = k ∨ 2147483647 ≤ m + L.length ∨ ∀ r, getM (at1 d j n (m + L.length)) (at2 d j n (m + L.length)) = some r → r.lsn ≠ m + L.length) → scanL d j n k m le = L
  | [], 0, m, le, _, _, _, _ => rfl
  | [], k + 1, m, le, _, _, _, h => by
    unfold scanL
    split
    · rename_i hm
      rcases h with h | h | h
      · simp at h
      · simp at h; omega
      · simp only [List.length_nil, Int.natCast_zero, Int.add_zero] at h
        unfold at1 at2 at h
        split
        · rename_i r hr
          rw [if_neg fun hh => h r hr hh.2.1]
        · rfl
    · rfl
  | x :: L, 0, m, le, h, _, _, _ => by simp at h
  | x :: L, k + 1, m, le, h0, hle, h, hend => by
    have hx := h 0 (by simp)
    simp only [Int.natCast_zero, Int.add_zero] at hx
    have e0 : gt (x :: L) 0 = x := rfl
    rw [e0] at hx
    obtain ⟨h1, h2, h3, h4, h5⟩ := hx
    unfold at1 at2 at h2
    unfold scanL
    rw [if_pos h1, h2]
    simp only
    rw [if_pos ⟨h3, h4, hle.1, h5⟩]
    congr 1
    have ei : ∀ t : Nat, m + 1 + (t : Int) = m + ((t + 1 : Nat) : Int) := fun t => by omega
    refine scanL_eq L k (m + 1) x.epoch (by simp at h0; omega) hle.2 (fun t ht => ?_) ?_
    · have := h (t + 1) (by simp; omega)
      rw [ei]
      exact this
    · rcases hend with hend | hend | hend
      · left; simp at hend; omega
      · right; left; simp at hend; omega
      · right; right
        rw [ei]
        exact hend
structure Inv (d : Dv) (l : Lo) : Prop where
  hd : DOK d
  hl : LOK l
  hs : sects l.j = d.n
  hnd : l.node < d.nd
  he : l.epoch = d.e l.node.toNat
  cut : d.cut = false
  head : ∃ e', headV (gt d.S (headAt l.j l.node).toNat) = .tuple #[.agg #[iv l.start, iv e'], iv 0] ∧ 0 ≤ e' ∧ e' ≤ 2147483647 ∧ max1 e' ≤ l.epoch ∧ Chain (max1 e') l.L
  own : ∀ r ∈ l.L, r.epoch ≤ l.epoch ∧ r.node = l.node ∧ r.page < l.j.pages ∧ Norm r
  std : ∀ i, i < kF l → at1 d l.j l.node (l.start + i) = half (gt l.L i) 0 ∧ at2 d l.j l.node (l.start + i) = half (gt l.L i) 1
  old : ∀ m r, getM (at1 d l.j l.node m) (at2 d l.j l.node m) = some r → r.lsn ≤ l.flushed
theorem Inv.left {d : Dv} {l : Lo} (h : Inv d l) : LeftOK d := fun hc => by rw [h.cut] at hc; cases hc
theorem kF_le {l : Lo} (hl : LOK l) : kF l ≤ l.L.length ∧ (kF l : Int) = l.flushed - l.start + 1 := by
  have := hl.fl
  unfold kF
  omega
theorem recAt_eq {j : Jb} {n a b : Int} (h : recAt j n a = recAt j n b) : (a - 1) % j.log = (b - 1) % j.log := by unfold recAt at h; omega
theorem mod_near {a b L : Int} (h : a % L = b % L) (h1 : a ≤ b) (h2 : b < a + L) : a = b := by
  have h3 := Int.emod_emod_of_dvd (b - a) (Int.dvd_refl L)
  have h4 : (b - a) % L = 0 := by rw [Int.sub_emod, h, Int.sub_self, Int.zero_emod]
  have h5 : (b - a) % L = b - a := Int.emod_eq_of_lt (by omega) (by omega)
  omega
theorem read_inv {d : Dv} {l : Lo} (h : Inv d l) {e' : Int} (he : Chain (max1 e') l.L) : scanL d l.j l.node l.j.log.toNat l.start (max1 e') = l.L.take (kF l) := by
  have hk := kF_le h.hl
  have hlen := h.hl.ln
  have hlog := h.hl.j.l
  have htl : (l.L.take (kF l)).length = kF l := by rw [List.length_take]; omega
  have hg : ∀ t, t < kF l → gt (l.L.take (kF l)) t = gt l.L t := fun t ht => by unfold gt; rw [List.getElem?_take, if_pos ht]
  refine scanL_eq _ _ _ _ (by rw [htl]; omega) (chain_take _ he) (fun t ht => ?_) ?_
  · rw [htl] at ht
    rw [hg t ht]
    have hm := gt_mem (L := l.L) (i := t) (by omega)
    obtain ⟨o1, o2, o3, o4⟩ := h.own _ hm
    obtain ⟨s1, s2⟩ := h.std t ht
    rw [s1, s2, getM_half (h.hl.may _ hm) (h.hl.by' _ hm) o4]
    exact ⟨by omega, rfl, o2, h.hl.lsn t (by omega), o3⟩
  · rw [htl]
    right; right
    intro r hr
    have := h.old _ r hr
    omega
theorem append_inv {d : Dv} {l : Lo} (h : Inv d l) {p : Int} {v : Ver} (hp : ApOK l p v) (hr : roomM l ≠ 0) (hb : Byte v.body) (hn : ∀ i, 96 ≤ i → v.body i = 0) : Inv d { l with L := l.L ++ [⟨l.node, l.epoch, l.start + l.L.length, p, v.psn, v.body⟩] } := by
  obtain ⟨a1, a2, a3, a4⟩ := hp
  have hlen := h.hl.ln
  have hlog := h.hl.j.l
  have hroom : l.start + l.L.length < 2147483647 ∧ l.L.length < l.j.log := by
    unfold roomM at hr
    split at hr
    · exact absurd rfl hr
    · omega
  have hst := h.hl.st
  have hep := h.hl.ep
  have hnd := h.hl.nd
  have hjn := h.hl.j.n
  have hjp := h.hl.j.p
  have hk := kF_le h.hl
  have hfl := h.hl.fl
  have hnew : May (⟨l.node, l.epoch, l.start + l.L.length, p, v.psn, v.body⟩ : Rec) := by constructor <;> simp only <;> omega
  have hl' : LOK { l with L := l.L ++ [(⟨l.node, l.epoch, l.start + l.L.length, p, v.psn, v.body⟩ : Rec)] } := by
    refine ⟨h.hl.j, hnd, hep, hst, ?_, ?_, ?_, ?_, ?_⟩
    · simp only [List.length_append, List.length_singleton]; omega
    · simp only [List.length_append, List.length_singleton]; omega
    · intro r hr
      rcases List.mem_append.1 hr with hr | hr
      · exact h.hl.may r hr
      · rw [List.mem_singleton.1 hr]; exact hnew
    · intro r hr
      rcases List.mem_append.1 hr with hr | hr
      · exact h.hl.by' r hr
      · rw [List.mem_singleton.1 hr]; exact hb
    · intro i hi
      simp only [List.length_append, List.length_singleton] at hi
      by_cases h1 : i < l.L.length
      · rw [gt_app_lt _ _ h1]; exact h.hl.lsn i h1
      · have : i = l.L.length := by omega
        subst this
        rw [gt_app_eq]
  refine ⟨h.hd, hl', h.hs, h.hnd, h.he, h.cut, ?_, ?_, ?_, h.old⟩
  · obtain ⟨e', q1, q2, q3, q4, q5⟩ := h.head
    exact ⟨e', q1, q2, q3, q4, chain_app q5 q4 fun r hr => (h.own r hr).1⟩
  · intro r hr
    rcases List.mem_append.1 hr with hr | hr
    · exact h.own r hr
    · rw [List.mem_singleton.1 hr]; exact ⟨Int.le_refl _, rfl, a2, hn⟩
  · intro i hi
    have hi : i < kF l := hi
    show _ = half (gt (l.L ++ _) i) 0 ∧ _ = half (gt (l.L ++ _) i) 1
    rw [gt_app_lt _ _ (by omega)]
    exact h.std i hi
end Go.Proofs.Ytpennfojidpmeaa
namespace Go.Proofs.Ytpennfojidpmeaa
open Go.Sx
set_option maxRecDepth 20000
theorem half_par {j : Jb} {n a b : Int} : recAt j n a ≠ recAt j n b + 1 := by unfold recAt; omega
theorem S_write2 {d : Dv} (hc : d.cut = false) (p : Int) (a b : Sec) : (write2 d p a b).S = (d.S.set p.toNat a).set (p + 1).toNat b := by simp [write2, write1, stop, hc]
theorem S_write1 {d : Dv} (hc : d.cut = false) (p : Int) (a : Sec) : (write1 d p a).S = d.S.set p.toNat a := by simp [write1, stop, hc]
theorem at_write2 {d : Dv} (hd : DOK d) (hc : d.cut = false) {j : Jb} (hj : MayJ j) (hs : sects j = d.n) {n : Int} (hn : 0 ≤ n ∧ n < j.nodes) (k m : Int) (a b : Sec) :
    at1 (write2 d (recAt j n k) a b) j n m = (if recAt j n m = recAt j n k then a else at1 d j n m) ∧ at2 (write2 d (recAt j n k) a b) j n m = (if recAt j n m = recAt j n k then b else at2 d j n m) := by
  have b1 := recAt_bd hj hn k
  have b2 := recAt_bd hj hn m
  have hl := hd.len
  have p1 := half_par (j := j) (n := n) (a := m) (b := k)
  have p2 := half_par (j := j) (n := n) (a := k) (b := m)
  unfold at1 at2
  rw [S_write2 hc, gt_set _ _ _ _ (by rw [List.length_set]; omega), gt_set _ _ _ _ (by omega), gt_set _ _ _ _ (by rw [List.length_set]; omega), gt_set _ _ _ _ (by omega)]
  by_cases h : recAt j n m = recAt j n k
  · rw [if_pos h, if_pos h, if_neg (by omega), if_pos (by omega), if_pos (by omega)]
    exact ⟨rfl, rfl⟩
  · rw [if_neg h, if_neg h, if_neg (by omega), if_neg (by omega), if_neg (by omega), if_neg (by omega)]
    exact ⟨rfl, rfl⟩
theorem head_write2 {d : Dv} (hd : DOK d) (hc : d.cut = false) {j : Jb} (hj : MayJ j) (hs : sects j = d.n) {n : Int} (hn : 0 ≤ n ∧ n < j.nodes) (k : Int) (a b : Sec) : gt (write2 d (recAt j n k) a b).S (headAt j n).toNat = gt d.S (headAt j n).toNat := by
  have b1 := recAt_bd hj hn k
  have hb := headAt_bd hj (n := n) ⟨hn.1, by have := hj.n; omega⟩
  have hl := hd.len
  have h1 : headAt j n < recAt j n k := by have := Int.emod_nonneg (k - 1) (b := j.log) (by have := hj.l; omega); unfold recAt; omega
  rw [S_write2 hc, gt_set _ _ _ _ (by rw [List.length_set]; omega), gt_set _ _ _ _ (by omega), if_neg (by omega), if_neg (by omega)]
theorem flush1_inv {d : Dv} {l : Lo} (h : Inv d l) (hk : kF l < l.L.length) (hdn : d.done ≤ 999999998) : Inv (write2 d (recAt l.j l.node (gt l.L (kF l)).lsn) (half (gt l.L (kF l)) 0) (half (gt l.L (kF l)) 1)) { l with flushed := l.flushed + 1 } := by
  obtain ⟨k1, k2⟩ := kF_le h.hl
  have hm := gt_mem hk
  have hlsn := h.hl.lsn _ hk
  have hby := h.hl.by' _ hm
  have hln := h.hl.ln
  have hfl := h.hl.fl
  obtain ⟨o1, o2, o3, o4⟩ := h.own _ hm
  obtain ⟨w1, w2, w3⟩ := write2_ok h.hd h.left (recAt l.j l.node (gt l.L (kF l)).lsn) (half_byte hby (h := 0) (by decide)) (half_byte hby (h := 1) (by decide)) hdn
  have hat := at_write2 h.hd h.cut h.hl.j h.hs h.hl.nd (gt l.L (kF l)).lsn
  have hkF : kF { l with flushed := l.flushed + 1 } = kF l + 1 := by unfold kF; simp only; omega
  refine ⟨w1, ⟨h.hl.j, h.hl.nd, h.hl.ep, h.hl.st, by simp only; omega, h.hl.ln, h.hl.may, h.hl.by', h.hl.lsn⟩, h.hs, h.hnd, h.he, h.cut, ?_, h.own, ?_, ?_⟩
  · obtain ⟨e', q1, q2⟩ := h.head
    exact ⟨e', by simp only; rw [head_write2 h.hd h.cut h.hl.j h.hs h.hl.nd]; exact q1, q2⟩
  · intro i hi
    rw [hkF] at hi
    obtain ⟨a1, a2⟩ := hat (l.start + i) (half (gt l.L (kF l)) 0) (half (gt l.L (kF l)) 1)
    simp only
    rw [a1, a2]
    by_cases hik : i = kF l
    · subst hik
      rw [if_pos (by rw [hlsn]), if_pos (by rw [hlsn])]
      exact ⟨rfl, rfl⟩
    · have hne : ¬ recAt l.j l.node (l.start + i) = recAt l.j l.node (gt l.L (kF l)).lsn := fun he => by
        have := recAt_eq he
        rw [hlsn] at this
        have h2 : (l.start + i - 1 : Int) = l.start + (kF l : Nat) - 1 := mod_near this (by omega) (by omega)
        omega
      rw [if_neg hne, if_neg hne]
      exact h.std i (by omega)
  · intro m r hr
    obtain ⟨a1, a2⟩ := hat m (half (gt l.L (kF l)) 0) (half (gt l.L (kF l)) 1)
    simp only at hr ⊢
    rw [a1, a2] at hr
    by_cases hm2 : recAt l.j l.node m = recAt l.j l.node (gt l.L (kF l)).lsn
    · rw [if_pos hm2, if_pos hm2, getM_half (h.hl.may _ hm) hby o4] at hr
      cases hr
      omega
    · rw [if_neg hm2, if_neg hm2] at hr
      have := h.old m r hr
      omega
theorem flushD_fl (l : Lo) (x : Int) : ∀ (rs : List Rec) (d : Dv), flushD { l with flushed := x } rs d = flushD l rs d
  | [], _ => rfl
  | _ :: rs, _ => flushD_fl l x rs _
theorem flush_inv : ∀ (k : Nat) {d : Dv} {l : Lo}, Inv d l → kF l + k = l.L.length → d.done + 2 * k ≤ 999999998 → Inv (flushD l (l.L.drop (kF l)) d) { l with flushed := l.start + l.L.length - 1 } ∧ (flushD l (l.L.drop (kF l)) d).done ≤ d.done + 2 * k
  | 0, d, l, h, hk, hd => by
    have ⟨k1, k2⟩ := kF_le h.hl
    rw [List.drop_eq_nil_of_le (by omega)]
    have e : ({ l with flushed := l.start + l.L.length - 1 } : Lo) = l := by
      have : l.start + l.L.length - 1 = l.flushed := by omega
      rw [this]
    rw [e]
    exact ⟨h, by show d.done ≤ _; omega⟩
  | k + 1, d, l, h, hk, hd => by
    have hlt : kF l < l.L.length := by omega
    have hkF : kF { l with flushed := l.flushed + 1 } = kF l + 1 := by have := (kF_le h.hl).2; unfold kF at this ⊢; simp only; omega
    have h1 := flush1_inv h hlt (by omega)
    have hw := (write2_ok h.hd h.left (recAt l.j l.node (gt l.L (kF l)).lsn) (half_byte (h.hl.by' _ (gt_mem hlt)) (h := 0) (by decide)) (half_byte (h.hl.by' _ (gt_mem hlt)) (h := 1) (by decide)) (by omega)).2.2
    have h2 := flush_inv k h1 (by rw [hkF]; simp only; omega) (by omega)
    rw [hkF, flushD_fl] at h2
    rw [List.drop_eq_getElem_cons hlt]
    have e : l.L[kF l] = gt l.L (kF l) := by unfold gt; rw [List.getElem?_eq_getElem hlt]; rfl
    rw [e]
    exact ⟨h2.1, by have := h2.2; simp only at this; show (flushD l (l.L.drop (kF l + 1)) (write2 d (recAt l.j l.node (gt l.L (kF l)).lsn) (half (gt l.L (kF l)) 0) (half (gt l.L (kF l)) 1))).done ≤ _; omega⟩
theorem cut_inv {d : Dv} {l : Lo} (h : Inv d l) {v : Int} (hv : l.start ≤ v ∧ v ≤ l.flushed + 1) (hee : ∀ r ∈ l.L.drop (v - l.start).toNat, r.epoch = l.epoch) (hdn : d.done ≤ 999999998) : Inv (write1 d (headAt l.j l.node) (headS v l.epoch)) (cutM l v) := by
  obtain ⟨k1, k2⟩ := kF_le h.hl
  obtain ⟨v1, v2⟩ := hv
  have hln := h.hl.ln
  have hfl := h.hl.fl
  have hst := h.hl.st
  have hep := h.hl.ep
  have hjn := h.hl.j.n
  obtain ⟨w1, w2, w3⟩ := write1_ok h.hd h.left (headAt l.j l.node) (headS_byte v l.epoch) (by omega)
  have hb := headAt_bd h.hl.j (n := l.node) ⟨h.hl.nd.1, by have := h.hl.nd; omega⟩
  have hlen := h.hd.len
  have hS := S_write1 h.cut (headAt l.j l.node) (headS v l.epoch)
  have hrb := fun m => recAt_bd h.hl.j h.hl.nd m
  have hhr : ∀ m, headAt l.j l.node < recAt l.j l.node m := fun m => by have := Int.emod_nonneg (m - 1) (b := l.j.log) (by have := h.hl.j.l; omega); unfold recAt; omega
  have hsz := h.hs
  have hat : ∀ m, at1 (write1 d (headAt l.j l.node) (headS v l.epoch)) l.j l.node m = at1 d l.j l.node m ∧ at2 (write1 d (headAt l.j l.node) (headS v l.epoch)) l.j l.node m = at2 d l.j l.node m := fun m => by
    have b1 := hrb m
    have b2 := hhr m
    unfold at1 at2
    rw [hS, gt_set _ _ _ _ (by omega), gt_set _ _ _ _ (by omega), if_neg (by omega), if_neg (by omega)]
    exact ⟨rfl, rfl⟩
  have hq : ((v - l.start).toNat : Int) = v - l.start := by omega
  have hdl : (l.L.drop (v - l.start).toNat).length = l.L.length - (v - l.start).toNat := List.length_drop
  have hkF : kF (cutM l v) = kF l - (v - l.start).toNat := by unfold kF cutM; simp only; omega
  refine ⟨w1, ⟨h.hl.j, h.hl.nd, hep, ?_, ?_, ?_, ?_, ?_, ?_⟩, h.hs, h.hnd, h.he, h.cut, ?_, ?_, ?_, ?_⟩
  · show 1 ≤ v ∧ v ≤ _; omega
  · show v - 1 ≤ l.flushed ∧ l.flushed < v + ((l.L.drop (v - l.start).toNat).length : Int); rw [hdl]; omega
  · show ((l.L.drop (v - l.start).toNat).length : Int) ≤ l.j.log ∧ v + ((l.L.drop (v - l.start).toNat).length : Int) ≤ _; rw [hdl]; omega
  · exact fun r hr => h.hl.may r (List.mem_of_mem_drop hr)
  · exact fun r hr => h.hl.by' r (List.mem_of_mem_drop hr)
  · intro i hi
    show (gt (l.L.drop (v - l.start).toNat) i).lsn = v + i
    rw [gt_drop, h.hl.lsn _ (by have hi : i < (l.L.drop (v - l.start).toNat).length := hi; rw [hdl] at hi; omega)]
    omega
  · refine ⟨l.epoch, ?_, by omega, by omega, ?_, ?_⟩
    · show headV (gt (write1 d (headAt l.j l.node) (headS v l.epoch)).S (headAt l.j l.node).toNat) = _
      have := hrb 1
      have := hhr 1
      rw [hS, gt_set _ _ _ _ (by omega), if_pos rfl]
      exact headV_headS ⟨by omega, by omega⟩ hep
    · show max1 l.epoch ≤ l.epoch
      unfold max1; split <;> omega
    · exact chain_const (e := l.epoch) (by unfold max1; split <;> omega) hee
  · exact fun r hr => h.own r (List.mem_of_mem_drop hr)
  · intro i hi
    rw [hkF] at hi
    show at1 _ l.j l.node (v + i) = half (gt (l.L.drop (v - l.start).toNat) i) 0 ∧ at2 _ l.j l.node (v + i) = half (gt (l.L.drop (v - l.start).toNat) i) 1
    rw [(hat _).1, (hat _).2, gt_drop]
    have := h.std ((v - l.start).toNat + i) (by omega)
    rw [show l.start + (((v - l.start).toNat + i : Nat) : Int) = v + i by omega] at this
    exact this
  · intro m r hr
    have hr : getM (at1 (write1 d (headAt l.j l.node) (headS v l.epoch)) l.j l.node m) (at2 (write1 d (headAt l.j l.node) (headS v l.epoch)) l.j l.node m) = some r := hr
    rw [(hat m).1, (hat m).2] at hr
    exact h.old m r hr
def log0 (j : Jb) (n : Int) : Lo := ⟨j, n, 1, 1, 0, []⟩
theorem devN_ok {j : Jb} (hj : MayJ j) : DOK (devN j) := by
  have := sects_bd hj
  have := hj.n
  exact devI_ok (by omega) (by omega) (by omega)
theorem devN_S {j : Jb} (i : Nat) : gt (devN j).S i = zeroS := by
  show gt (List.replicate _ zeroS) i = zeroS
  unfold gt
  rw [List.getElem?_replicate]
  split <;> rfl
theorem new_inv {j : Jb} (hj : MayJ j) {n : Int} (hn : 0 ≤ n ∧ n < j.nodes) : Inv (devN j) (log0 j n) := by
  have hb := sects_bd hj
  have hjn := hj.n
  refine ⟨devN_ok hj, ⟨hj, hn, by show (1 : Int) ≤ 1 ∧ (1 : Int) ≤ 2147483647; omega, by show (1 : Int) ≤ 1 ∧ (1 : Int) ≤ 2147483647; omega, by show (1 : Int) - 1 ≤ 0 ∧ (0 : Int) < 1 + (([] : List Rec).length : Int); simp, by show ((([] : List Rec).length : Nat) : Int) ≤ j.log ∧ (1 : Int) + (([] : List Rec).length : Int) ≤ _; have := hj.l; simp; omega, (fun r hr => by cases hr), (fun r hr => by cases hr), (fun i hi => by cases hi)⟩, ?_, hn.2, ?_, rfl, ?_, (fun r hr => by cases hr), (fun i hi => ?_), (fun m r hr => ?_)⟩
  · show sects j = ((sects j).toNat : Int); omega
  · show (1 : Int) = (if n.toNat < j.nodes.toNat then 1 else 0)
    rw [if_pos (by omega)]
  · refine ⟨0, ?_, by omega, by omega, ?_, trivial⟩
    · rw [devN_S]; exact headV_zero
    · show max1 0 ≤ 1; unfold max1; simp
  · have : kF (log0 j n) = 0 := rfl
    omega
  · unfold at1 at2 at hr
    rw [devN_S, devN_S, getM_zero] at hr
    cases hr
end Go.Proofs.Ytpennfojidpmeaa
namespace Go.Proofs.Ytpennfojidpmeaa
open Go.Sx
set_option maxRecDepth 20000
theorem asIxaM {d : Den} {t el : TypeId} {n len c a i r b off z : Nat} {fk : FloatKind} {k : IntKind} {q : Int} (hu : Program.underlying Try.prog t = some (.slice el)) (hn : sizeB Try.prog el = some n) (ho : d.o a = mSl b len c z) (h0 : 1 ≤ len) (hv : d.v i = .int k q) (h1 : 0 ≤ q) (h2 : q < len)
    (hr : d.o r = .pointer (some ⟨b, off, none⟩)) (hoff : off = 0 + q.toNat * n) : @AK.Ok d Try.prog (.ixa t (.chan (some a)) (.float fk i)) (.chan (some r)) := asIxa hu hn (ho.trans (mSl_pos h0)) hv h1 h2 hr hoff
def apM (l : Lo) (p : Int) (v : Ver) : Lo := { l with L := l.L ++ [⟨l.node, l.epoch, l.start + l.L.length, p, v.psn, v.body⟩] }
theorem append_E {l : Lo} (hl : LOK l) {p : Int} {v : Ver} (h : ApOK l p v) (hr : roomM l ≠ 0) : Ctr Try.prog 20 [pt 2 0, iv p, .agg (verV v).toArray] (logR l 3 false) (.tuple #[iv (l.start + l.L.length), iv 0]) [(2, .row 62 (.lst (logRow (apM l p v) 4)) false), (3, .dead), (4, rowOr 47 (enc recL (apM l p v).L) false), (0, .dead)] :=
  Ctr.reB (Ctr.addDead (append_ok hl h hr) 3 rfl) fun i => match i with
    | 0 => rfl | 1 => rfl | 2 => rfl | 3 => rfl | 4 => rfl | _ + 5 => rfl
theorem cut_E {l : Lo} (hl : LOK l) {d : Dv} (hd : DOK d) {v : Int} (hv : l.start ≤ v ∧ v ≤ l.flushed + 1) (hs : sects l.j = d.n) (hnd : l.node < d.nd) (hlo : LeftOK d) (he : l.epoch = d.e l.node.toNat) : Ctr Try.prog 18 [pt 2 0, iv v] (devH d false ++ logA l 3 false) (iv 0) (devH (write1 d (headAt l.j l.node) (headS v l.epoch)) false ++ [(2, .row 62 (.lst (logRow (cutM l v) 4)) false), (3, .dead), (4, rowOr 47 (enc recL (cutM l v).L) false)]) :=
  Ctr.reB (Ctr.addDead (cut_ok hl hd hv hs hnd hlo he) 3 rfl) fun i => match i with
    | 0 => rfl | 1 => rfl | 2 => rfl | 3 => rfl | 4 => rfl | _ + 5 => rfl
def fixN (d r : Dv) : Dv := ⟨d.n, r.S, r.e, r.nd, r.cut, r.left, r.lost, r.done⟩
def flW (l : Lo) (d : Dv) : Dv := fixN d (flushD l (l.L.drop (kF l)) d)
def flL (l : Lo) : Lo := { l with flushed := l.start + l.L.length - 1 }
theorem flushD_n (l : Lo) : ∀ (rs : List Rec) (d : Dv), (flushD l rs d).n = d.n
  | [], _ => rfl
  | _ :: rs, _ => flushD_n l rs _
theorem flW_eq (l : Lo) (d : Dv) : flW l d = flushD l (l.L.drop (kF l)) d := by
  have h := flushD_n l (l.L.drop (kF l)) d
  unfold flW fixN
  rw [← h]
theorem flush_E {l : Lo} (hl : LOK l) {d : Dv} (hd : DOK d) (hlo : LeftOK d) (hdn : d.done ≤ 800000000) (hs : sects l.j = d.n) (hnd : l.node < d.nd) (he : kF l < l.L.length → l.epoch = d.e l.node.toNat) : Ctr Try.prog 17 [pt 2 0] (devH d false ++ logA l 3 false) (iv 0) (devH (flW l d) false ++ logA (flL l) 3 false) := by
  rw [flW_eq]
  exact flush_ok hl hd hlo hdn hs hnd he
section
variable {p n k : Int}
variable {d : Dv} {l : Lo} {i : Int}
end
end Go.Proofs.Ytpennfojidpmeaa
namespace Go.Proofs.Ytpennfojidpmeaa
open Go.Sx
set_option maxRecDepth 20000
theorem open_new {j : Jb} (hj : MayJ j) {n : Int} (hn : 0 ≤ n ∧ n < j.nodes) : Ctr Try.prog 15 [pt 0 0, jobV j, iv n, iv 1] (devH (devN j) false) (.tuple #[pt 2 0, iv 0]) (devH (devN j) false ++ logA (log0 j n) 3 false) := by
  have h := new_inv hj hn
  obtain ⟨e', q1, q2, q3, _, q4⟩ := h.head
  have ho := open_ok h.hd hj h.hs hn (s := 1) (ep := 1) ⟨Int.le_refl _, by decide⟩ ⟨Int.le_refl _, by decide⟩ ⟨q2, q3⟩ q1
  have hr := read_inv h q4
  have hr : scanL (devN j) j n j.log.toNat 1 (max1 e') = [] := hr
  rw [hr] at ho
  exact ho
end Go.Proofs.Ytpennfojidpmeaa
namespace Go.Proofs.Ytpennfojidpmeaa
open Go.Sx
set_option maxRecDepth 20000
def OldS (b : Sec) (B : Int) : Prop := b = zeroS ∨ ∃ y : Rec, 1 ≤ y.lsn ∧ y.lsn ≤ 2147483647 ∧ y.lsn ≤ B ∧ b = half y 1
def Old (d : Dv) (j : Jb) (n B : Int) : Prop := ∀ m, OldS (at2 d j n m) B
theorem OldS.mono {b : Sec} {B B' : Int} (h : OldS b B) (hb : B ≤ B') : OldS b B' := by
  rcases h with h | ⟨y, h1, h2, h3, h4⟩
  · exact .inl h
  · exact .inr ⟨y, h1, h2, by omega, h4⟩
theorem getM_torn {x : Rec} (hx : May x) {b : Sec} {B : Int} (hb : OldS b B) (h : B < x.lsn) : getM (half x 0) b = none := by
  unfold getM
  by_cases hm : May (said (half x 0) b)
  · rw [if_pos hm, if_neg]
    intro he
    unfold eqP at he
    rw [Bool.and_eq_true, Bool.and_eq_true] at he
    have e1 := eqS_iff.1 he.2.1
    have hl : (said (half x 0) b).lsn = x.lsn := by
      have := hx.l
      show x.lsn / 16777216 % 256 * 16777216 + x.lsn / 65536 % 256 * 65536 + x.lsn / 256 % 256 * 256 + x.lsn % 256 = x.lsn
      omega
    rcases hb with hb | ⟨y, y1, y2, y3, hb⟩
    · have := e1 0 (by decide)
      rw [hb] at this
      simp [half, zeroS] at this
    · have a6 := e1 6 (by decide)
      have a7 := e1 7 (by decide)
      have a8 := e1 8 (by decide)
      have a9 := e1 9 (by decide)
      rw [hb] at a6 a7 a8 a9
      rw [← hb] at a6 a7 a8 a9
      have b6 : (said (half x 0) b).lsn / 16777216 % 256 = b 6 := a6
      have b7 : (said (half x 0) b).lsn / 65536 % 256 = b 7 := a7
      have b8 : (said (half x 0) b).lsn / 256 % 256 = b 8 := a8
      have b9 : (said (half x 0) b).lsn % 256 = b 9 := a9
      rw [hl] at b6 b7 b8 b9
      have c6 : b 6 = y.lsn / 16777216 % 256 := by rw [hb]; rfl
      have c7 : b 7 = y.lsn / 65536 % 256 := by rw [hb]; rfl
      have c8 : b 8 = y.lsn / 256 % 256 := by rw [hb]; rfl
      have c9 : b 9 = y.lsn % 256 := by rw [hb]; rfl
      have := hx.l
      omega
  · rw [if_neg hm]
theorem old_write2 {d : Dv} {l : Lo} (h : Inv d l) (ho : Old d l.j l.node l.flushed) (hk : kF l < l.L.length) : Old (write2 d (recAt l.j l.node (gt l.L (kF l)).lsn) (half (gt l.L (kF l)) 0) (half (gt l.L (kF l)) 1)) l.j l.node (l.flushed + 1) := fun m => by
  have hm := h.hl.may _ (gt_mem hk)
  have hlsn := h.hl.lsn _ hk
  have ⟨k1, k2⟩ := kF_le h.hl
  rw [(at_write2 h.hd h.cut h.hl.j h.hs h.hl.nd (gt l.L (kF l)).lsn m _ _).2]
  split
  · exact .inr ⟨_, hm.l.1, hm.l.2, by omega, rfl⟩
  · exact (ho m).mono (by omega)
theorem stop_flush (l : Lo) : ∀ (rs : List Rec) (D : Dv), D.cut = true → D.left = 0 → (flushD l rs D).S = D.S
  | [], _, _, _ => rfl
  | r :: rs, D, hc, hl => by
    show (flushD l rs (write2 D _ _ _)).S = D.S
    rw [stop_flush l rs _ (by simp [write2, write1, hc]) (by simp [write2, write1, stop, hc, hl])]
    simp [write2, write1, stop, hc, hl]
theorem tear : ∀ (k : Nat) {d D : Dv} {l : Lo} {c : Nat}, Inv d l → Old d l.j l.node l.flushed → kF l + k = l.L.length → d.done + 2 * k ≤ 999999998 → D.S = d.S → D.cut = true → D.left = c →
    ∃ d2 : Dv, Inv d2 { l with flushed := l.flushed + (min k (c / 2) : Nat) } ∧ Old d2 l.j l.node (l.flushed + (min k (c / 2) : Nat)) ∧ d2.n = d.n ∧ d2.e = d.e ∧ d2.nd = d.nd ∧
      ((flushD l (l.L.drop (kF l)) D).S = d2.S ∨ (kF l + min k (c / 2) < l.L.length ∧ (flushD l (l.L.drop (kF l)) D).S = d2.S.set (recAt l.j l.node (gt l.L (kF l + min k (c / 2))).lsn).toNat (half (gt l.L (kF l + min k (c / 2))) 0)))
  | 0, d, D, l, c, h, ho, hk, hd, hS, hc, hl => by
    rw [List.drop_eq_nil_of_le (by omega), Nat.zero_min]
    exact ⟨d, by simpa using h, by simpa using ho, rfl, rfl, rfl, .inl hS⟩
  | k + 1, d, D, l, c, h, ho, hk, hd, hS, hc, hl => by
    have hlt : kF l < l.L.length := by omega
    by_cases h2 : 2 ≤ c
    · have hkF : kF { l with flushed := l.flushed + 1 } = kF l + 1 := by have := (kF_le h.hl).2; unfold kF at this ⊢; simp only; omega
      have h1 := flush1_inv h hlt (by omega)
      have ho1 := old_write2 h ho hlt
      have hw := (write2_ok h.hd h.left (recAt l.j l.node (gt l.L (kF l)).lsn) (half_byte (h.hl.by' _ (gt_mem hlt)) (h := 0) (by decide)) (half_byte (h.hl.by' _ (gt_mem hlt)) (h := 1) (by decide)) (by omega)).2.2
      have hmin : min (k + 1) (c / 2) = min k ((c - 2) / 2) + 1 := by omega
      have ih := tear k (D := write2 D (recAt l.j l.node (gt l.L (kF l)).lsn) (half (gt l.L (kF l)) 0) (half (gt l.L (kF l)) 1)) (c := c - 2) h1 ho1 (by rw [hkF]; simp only; omega) (by omega)
        (by rw [S_write2 h.cut]
            have b0 : ¬ (D.left = 0) := by omega
            have b1 : ¬ (D.left - 1 = 0) := by omega
            simp [write2, write1, stop, hc, b0, b1, hS])
        (by simp [write2, write1, hc])
        (by have b0 : ¬ (D.left = 0) := by omega
            have b1 : ¬ (D.left - 1 = 0) := by omega
            simp [write2, write1, stop, hc, b0, b1]; omega)
      rw [hkF, flushD_fl] at ih
      simp only at ih
      have ed : l.L.drop (kF l) = gt l.L (kF l) :: l.L.drop (kF l + 1) := by
        rw [List.drop_eq_getElem_cons hlt]
        have e : l.L[kF l] = gt l.L (kF l) := by unfold gt; rw [List.getElem?_eq_getElem hlt]; rfl
        rw [e]
      rw [ed, hmin]
      have e1 : l.flushed + 1 + ((min k ((c - 2) / 2) : Nat) : Int) = l.flushed + ((min k ((c - 2) / 2) + 1 : Nat) : Int) := by omega
      have e2 : kF l + 1 + min k ((c - 2) / 2) = kF l + (min k ((c - 2) / 2) + 1) := by omega
      rw [e1, e2] at ih
      exact ih
    · have hm0 : min (k + 1) (c / 2) = 0 := by omega
      rw [hm0]
      refine ⟨d, by simpa using h, by simpa using ho, rfl, rfl, rfl, ?_⟩
      have ed : l.L.drop (kF l) = gt l.L (kF l) :: l.L.drop (kF l + 1) := by
        rw [List.drop_eq_getElem_cons hlt]
        have e : l.L[kF l] = gt l.L (kF l) := by unfold gt; rw [List.getElem?_eq_getElem hlt]; rfl
        rw [e]
      by_cases h0 : c = 0
      · left
        rw [stop_flush _ _ _ hc (by omega), hS]
      · right
        have hl1 : D.left = 1 := by omega
        refine ⟨by omega, ?_⟩
        rw [ed]
        show (flushD l _ (write2 D _ _ _)).S = _
        rw [stop_flush _ _ _ (by simp [write2, write1, hc]) (by simp [write2, write1, stop, hc, hl1])]
        simp [write2, write1, stop, hc, hl1, hS]
theorem torn_inv {d D : Dv} {l : Lo} (h : Inv d l) (ho : Old d l.j l.node l.flushed) (hD : DOK D) (hn : D.n = d.n) (hnd : D.nd = d.nd) (hc : D.cut = false) (he : l.epoch ≤ D.e l.node.toNat ∧ D.e l.node.toNat ≤ 2147483647)
    (hS : D.S = d.S ∨ (kF l < l.L.length ∧ D.S = d.S.set (recAt l.j l.node (gt l.L (kF l)).lsn).toNat (half (gt l.L (kF l)) 0))) :
    Inv D ⟨l.j, l.node, D.e l.node.toNat, l.start, l.start + (l.L.take (kF l)).length - 1, l.L.take (kF l)⟩ := by
  have ⟨k1, k2⟩ := kF_le h.hl
  have hln := h.hl.ln
  have hfl := h.hl.fl
  have hst := h.hl.st
  have hep := h.hl.ep
  have htl : (l.L.take (kF l)).length = kF l := by rw [List.length_take]; omega
  have hg : ∀ t, t < kF l → gt (l.L.take (kF l)) t = gt l.L t := fun t ht => by unfold gt; rw [List.getElem?_take, if_pos ht]
  have hlen := h.hd.len
  have hsz := h.hs
  have hrb := fun m => recAt_bd h.hl.j h.hl.nd m
  have hb := headAt_bd h.hl.j (n := l.node) ⟨h.hl.nd.1, by have := h.hl.nd; have := h.hl.j.n; omega⟩
  have hhr : ∀ m, headAt l.j l.node < recAt l.j l.node m := fun m => by have := Int.emod_nonneg (m - 1) (b := l.j.log) (by have := h.hl.j.l; omega); unfold recAt; omega
  have hat2 : ∀ m, at2 D l.j l.node m = at2 d l.j l.node m := fun m => by
    rcases hS with hS | ⟨hk, hS⟩
    · unfold at2; rw [hS]
    · unfold at2
      have b1 := hrb m
      have b2 := hrb (gt l.L (kF l)).lsn
      have := half_par (j := l.j) (n := l.node) (a := (gt l.L (kF l)).lsn) (b := m)
      rw [hS, gt_set _ _ _ _ (by omega), if_neg (by omega)]
  have hat1 : ∀ m, at1 D l.j l.node m = at1 d l.j l.node m ∨ (kF l < l.L.length ∧ recAt l.j l.node m = recAt l.j l.node (gt l.L (kF l)).lsn ∧ at1 D l.j l.node m = half (gt l.L (kF l)) 0) := fun m => by
    rcases hS with hS | ⟨hk, hS⟩
    · left; unfold at1; rw [hS]
    · have b1 := hrb m
      have b2 := hrb (gt l.L (kF l)).lsn
      unfold at1
      rw [hS, gt_set _ _ _ _ (by omega)]
      by_cases hq : recAt l.j l.node m = recAt l.j l.node (gt l.L (kF l)).lsn
      · right; rw [if_pos (by rw [hq])]; exact ⟨hk, hq, rfl⟩
      · left; rw [if_neg (by omega)]
  have hhead : gt D.S (headAt l.j l.node).toNat = gt d.S (headAt l.j l.node).toNat := by
    rcases hS with hS | ⟨hk, hS⟩
    · rw [hS]
    · have b1 := hhr (gt l.L (kF l)).lsn
      have b2 := hrb (gt l.L (kF l)).lsn
      rw [hS, gt_set _ _ _ _ (by omega), if_neg (by omega)]
  refine ⟨hD, ⟨h.hl.j, h.hl.nd, by simp only; omega, hst, by simp only; omega, by simp only; rw [htl]; omega, fun r hr => h.hl.may r (List.mem_of_mem_take hr), fun r hr => h.hl.by' r (List.mem_of_mem_take hr), fun i hi => ?_⟩, by simp only; rw [hn]; exact hsz, by simp only; rw [hnd]; exact h.hnd, rfl, hc, ?_, ?_, ?_, ?_⟩
  · simp only at hi ⊢
    rw [htl] at hi
    rw [hg i hi]
    exact h.hl.lsn i (by omega)
  · obtain ⟨e', q1, q2, q3, q4, q5⟩ := h.head
    exact ⟨e', by simp only; rw [hhead]; exact q1, q2, q3, by simp only; omega, chain_take _ q5⟩
  · intro r hr
    obtain ⟨o1, o2⟩ := h.own r (List.mem_of_mem_take hr)
    exact ⟨by simp only; omega, o2⟩
  · intro i hi
    replace hi : i < (l.start + ((l.L.take (kF l)).length : Int) - 1 - l.start + 1).toNat := hi
    rw [htl] at hi
    replace hi : i < kF l := by omega
    simp only
    rw [hg i hi, hat2]
    refine ⟨?_, (h.std i hi).2⟩
    rcases hat1 (l.start + i) with q | ⟨hk, q, _⟩
    · rw [q]; exact (h.std i hi).1
    · have := recAt_eq q
      rw [h.hl.lsn _ hk] at this
      have := mod_near this (by omega) (by omega)
      omega
  · intro m r hr
    simp only at hr ⊢
    rw [hat2] at hr
    rcases hat1 m with q | ⟨hk, q, q2⟩
    · rw [q] at hr
      have := h.old m r hr
      rw [htl]; omega
    · rw [q2, getM_torn (h.hl.may _ (gt_mem hk)) (ho m) (by rw [h.hl.lsn _ hk]; omega)] at hr
      cases hr
theorem Old.append {d : Dv} {j : Jb} {n B : Int} (h : Old d j n B) {B' : Int} (hb : B ≤ B') : Old d j n B' := fun m => (h m).mono hb
theorem new_old (j : Jb) (n : Int) : Old (devN j) j n 0 := fun m => by
  left
  unfold at2
  exact devN_S _
theorem flush_old : ∀ (k : Nat) {d : Dv} {l : Lo}, Inv d l → Old d l.j l.node l.flushed → kF l + k = l.L.length → d.done + 2 * k ≤ 999999998 → Old (flushD l (l.L.drop (kF l)) d) l.j l.node (l.start + l.L.length - 1)
  | 0, d, l, h, ho, hk, hd => by
    have ⟨k1, k2⟩ := kF_le h.hl
    rw [List.drop_eq_nil_of_le (by omega)]
    exact ho.append (by omega)
  | k + 1, d, l, h, ho, hk, hd => by
    have hlt : kF l < l.L.length := by omega
    have hkF : kF { l with flushed := l.flushed + 1 } = kF l + 1 := by have := (kF_le h.hl).2; unfold kF at this ⊢; simp only; omega
    have h1 := flush1_inv h hlt (by omega)
    have hw := (write2_ok h.hd h.left (recAt l.j l.node (gt l.L (kF l)).lsn) (half_byte (h.hl.by' _ (gt_mem hlt)) (h := 0) (by decide)) (half_byte (h.hl.by' _ (gt_mem hlt)) (h := 1) (by decide)) (by omega)).2.2
    have h2 := flush_old k h1 (old_write2 h ho hlt) (by rw [hkF]; simp only; omega) (by omega)
    rw [hkF, flushD_fl] at h2
    rw [List.drop_eq_getElem_cons hlt]
    have e : l.L[kF l] = gt l.L (kF l) := by unfold gt; rw [List.getElem?_eq_getElem hlt]; rfl
    rw [e]
    exact h2
theorem cut_old {d : Dv} {l : Lo} (h : Inv d l) {B : Int} (ho : Old d l.j l.node B) (s : Sec) : Old (write1 d (headAt l.j l.node) s) l.j l.node B := fun m => by
  have b1 := recAt_bd h.hl.j h.hl.nd m
  have hb := headAt_bd h.hl.j (n := l.node) ⟨h.hl.nd.1, by have := h.hl.nd; have := h.hl.j.n; omega⟩
  have hhr : headAt l.j l.node < recAt l.j l.node m := by have := Int.emod_nonneg (m - 1) (b := l.j.log) (by have := h.hl.j.l; omega); unfold recAt; omega
  have hsz := h.hs
  have hlen := h.hd.len
  have := ho m
  unfold at2 at this ⊢
  rw [S_write1 h.cut, gt_set _ _ _ _ (by omega), if_neg (by omega)]
  exact this
end Go.Proofs.Ytpennfojidpmeaa

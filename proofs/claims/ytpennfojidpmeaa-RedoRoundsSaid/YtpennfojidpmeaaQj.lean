import Derived.Test.YtpennfojidpmeaaQi
import Derived.Test.YtpennfojidpmeaaRows
namespace Go.Proofs.Ytpennfojidpmeaa
open Go.Sx
set_option maxRecDepth 20000
theorem half_par {j : Jb} {n a b : Int} : recAt j n a ≠ recAt j n b + 1 := by unfold recAt; omega
theorem S_write2 {d : Dv} (hc : d.cut = false) (p : Int) (a b : Sec) : (write2 d p a b).S = (d.S.set p.toNat a).set (p + 1).toNat b := by simp [write2, write1, stop, hc]
theorem S_write1 {d : Dv} (hc : d.cut = false) (p : Int) (a : Sec) : (write1 d p a).S = d.S.set p.toNat a := by simp [write1, stop, hc]
theorem at_write2 {d : Dv} (hd : DOK d) (hc : d.cut = false) {j : Jb} (hj : MayJ j) (hs : sects j = d.n) {n : Int} (hn : 0 ≤ n ∧ n < j.nodes) (k m : Int) (a b : Sec) :
    at1 (write2 d (recAt j n k) a b) j n m = (if recAt j n m = recAt j n k then a else at1 d j n m) ∧ at2 (write2 d (recAt j n k) a b) j n m = (if recAt j n m = recAt j n k then b else at2 d j n m) := by
  have b1 := recAt_bd hj hn k
  have b2 := recAt_bd hj hn m
  have hl := hd.len
  have p1 := half_par (j := j) (n := n) (a := m) (b := k)
  have p2 := half_par (j := j) (n := n) (a := k) (b := m)
  unfold at1 at2
  rw [S_write2 hc, gt_set _ _ _ _ (by rw [List.length_set]; omega), gt_set _ _ _ _ (by omega), gt_set _ _ _ _ (by rw [List.length_set]; omega), gt_set _ _ _ _ (by omega)]
  by_cases h : recAt j n m = recAt j n k
  · rw [if_pos h, if_pos h, if_neg (by omega), if_pos (by omega), if_pos (by omega)]
    exact ⟨rfl, rfl⟩
  · rw [if_neg h, if_neg h, if_neg (by omega), if_neg (by omega), if_neg (by omega), if_neg (by omega)]
    exact ⟨rfl, rfl⟩
theorem head_write2 {d : Dv} (hd : DOK d) (hc : d.cut = false) {j : Jb} (hj : MayJ j) (hs : sects j = d.n) {n : Int} (hn : 0 ≤ n ∧ n < j.nodes) (k : Int) (a b : Sec) : gt (write2 d (recAt j n k) a b).S (headAt j n).toNat = gt d.S (headAt j n).toNat := by
  have b1 := recAt_bd hj hn k
  have hb := headAt_bd hj (n := n) ⟨hn.1, by have := hj.n; omega⟩
  have hl := hd.len
  have h1 : headAt j n < recAt j n k := by have := Int.emod_nonneg (k - 1) (b := j.log) (by have := hj.l; omega); unfold recAt; omega
  rw [S_write2 hc, gt_set _ _ _ _ (by rw [List.length_set]; omega), gt_set _ _ _ _ (by omega), if_neg (by omega), if_neg (by omega)]
theorem flush1_inv {d : Dv} {l : Lo} (h : Inv d l) (hk : kF l < l.L.length) (hdn : d.done ≤ 999999998) : Inv (write2 d (recAt l.j l.node (gt l.L (kF l)).lsn) (half (gt l.L (kF l)) 0) (half (gt l.L (kF l)) 1)) { l with flushed := l.flushed + 1 } := by
  obtain ⟨k1, k2⟩ := kF_le h.hl
  have hm := gt_mem hk
  have hlsn := h.hl.lsn _ hk
  have hby := h.hl.by' _ hm
  have hln := h.hl.ln
  have hfl := h.hl.fl
  obtain ⟨o1, o2, o3, o4⟩ := h.own _ hm
  obtain ⟨w1, w2, w3⟩ := write2_ok h.hd h.left (recAt l.j l.node (gt l.L (kF l)).lsn) (half_byte hby (h := 0) (by decide)) (half_byte hby (h := 1) (by decide)) hdn
  have hat := at_write2 h.hd h.cut h.hl.j h.hs h.hl.nd (gt l.L (kF l)).lsn
  have hkF : kF { l with flushed := l.flushed + 1 } = kF l + 1 := by unfold kF; simp only; omega
  refine ⟨w1, ⟨h.hl.j, h.hl.nd, h.hl.ep, h.hl.st, by simp only; omega, h.hl.ln, h.hl.may, h.hl.by', h.hl.lsn⟩, h.hs, h.hnd, h.he, h.cut, ?_, h.own, ?_, ?_⟩
  · obtain ⟨e', q1, q2⟩ := h.head
    exact ⟨e', by simp only; rw [head_write2 h.hd h.cut h.hl.j h.hs h.hl.nd]; exact q1, q2⟩
  · intro i hi
    rw [hkF] at hi
    obtain ⟨a1, a2⟩ := hat (l.start + i) (half (gt l.L (kF l)) 0) (half (gt l.L (kF l)) 1)
    simp only
    rw [a1, a2]
    by_cases hik : i = kF l
    · subst hik
      rw [if_pos (by rw [hlsn]), if_pos (by rw [hlsn])]
      exact ⟨rfl, rfl⟩
    · have hne : ¬ recAt l.j l.node (l.start + i) = recAt l.j l.node (gt l.L (kF l)).lsn := fun he => by
        have := recAt_eq he
        rw [hlsn] at this
        have h2 : (l.start + i - 1 : Int) = l.start + (kF l : Nat) - 1 := mod_near this (by omega) (by omega)
        omega
      rw [if_neg hne, if_neg hne]
      exact h.std i (by omega)
  · intro m r hr
    obtain ⟨a1, a2⟩ := hat m (half (gt l.L (kF l)) 0) (half (gt l.L (kF l)) 1)
    simp only at hr ⊢
    rw [a1, a2] at hr
    by_cases hm2 : recAt l.j l.node m = recAt l.j l.node (gt l.L (kF l)).lsn
    · rw [if_pos hm2, if_pos hm2, getM_half (h.hl.may _ hm) hby o4] at hr
      cases hr
      omega
    · rw [if_neg hm2, if_neg hm2] at hr
      have := h.old m r hr
      omega
theorem flushD_fl (l : Lo) (x : Int) : ∀ (rs : List Rec) (d : Dv), flushD { l with flushed := x } rs d = flushD l rs d
  | [], _ => rfl
  | _ :: rs, _ => flushD_fl l x rs _
theorem flush_inv : ∀ (k : Nat) {d : Dv} {l : Lo}, Inv d l → kF l + k = l.L.length → d.done + 2 * k ≤ 999999998 → Inv (flushD l (l.L.drop (kF l)) d) { l with flushed := l.start + l.L.length - 1 } ∧ (flushD l (l.L.drop (kF l)) d).done ≤ d.done + 2 * k
  | 0, d, l, h, hk, hd => by
    have ⟨k1, k2⟩ := kF_le h.hl
    rw [List.drop_eq_nil_of_le (by omega)]
    have e : ({ l with flushed := l.start + l.L.length - 1 } : Lo) = l := by
      have : l.start + l.L.length - 1 = l.flushed := by omega
      rw [this]
    rw [e]
    exact ⟨h, by show d.done ≤ _; omega⟩
  | k + 1, d, l, h, hk, hd => by
    have hlt : kF l < l.L.length := by omega
    have hkF : kF { l with flushed := l.flushed + 1 } = kF l + 1 := by have := (kF_le h.hl).2; unfold kF at this ⊢; simp only; omega
    have h1 := flush1_inv h hlt (by omega)
    have hw := (write2_ok h.hd h.left (recAt l.j l.node (gt l.L (kF l)).lsn) (half_byte (h.hl.by' _ (gt_mem hlt)) (h := 0) (by decide)) (half_byte (h.hl.by' _ (gt_mem hlt)) (h := 1) (by decide)) (by omega)).2.2
    have h2 := flush_inv k h1 (by rw [hkF]; simp only; omega) (by omega)
    rw [hkF, flushD_fl] at h2
    rw [List.drop_eq_getElem_cons hlt]
    have e : l.L[kF l] = gt l.L (kF l) := by unfold gt; rw [List.getElem?_eq_getElem hlt]; rfl
    rw [e]
    exact ⟨h2.1, by have := h2.2; simp only at this; show (flushD l (l.L.drop (kF l + 1)) (write2 d (recAt l.j l.node (gt l.L (kF l)).lsn) (half (gt l.L (kF l)) 0) (half (gt l.L (kF l)) 1))).done ≤ _; omega⟩
theorem cut_inv {d : Dv} {l : Lo} (h : Inv d l) {v : Int} (hv : l.start ≤ v ∧ v ≤ l.flushed + 1) (hee : ∀ r ∈ l.L.drop (v - l.start).toNat, r.epoch = l.epoch) (hdn : d.done ≤ 999999998) : Inv (write1 d (headAt l.j l.node) (headS v l.epoch)) (cutM l v) := by
  obtain ⟨k1, k2⟩ := kF_le h.hl
  obtain ⟨v1, v2⟩ := hv
  have hln := h.hl.ln
  have hfl := h.hl.fl
  have hst := h.hl.st
  have hep := h.hl.ep
  have hjn := h.hl.j.n
  obtain ⟨w1, w2, w3⟩ := write1_ok h.hd h.left (headAt l.j l.node) (headS_byte v l.epoch) (by omega)
  have hb := headAt_bd h.hl.j (n := l.node) ⟨h.hl.nd.1, by have := h.hl.nd; omega⟩
  have hlen := h.hd.len
  have hS := S_write1 h.cut (headAt l.j l.node) (headS v l.epoch)
  have hrb := fun m => recAt_bd h.hl.j h.hl.nd m
  have hhr : ∀ m, headAt l.j l.node < recAt l.j l.node m := fun m => by have := Int.emod_nonneg (m - 1) (b := l.j.log) (by have := h.hl.j.l; omega); unfold recAt; omega
  have hsz := h.hs
  have hat : ∀ m, at1 (write1 d (headAt l.j l.node) (headS v l.epoch)) l.j l.node m = at1 d l.j l.node m ∧ at2 (write1 d (headAt l.j l.node) (headS v l.epoch)) l.j l.node m = at2 d l.j l.node m := fun m => by
    have b1 := hrb m
    have b2 := hhr m
    unfold at1 at2
    rw [hS, gt_set _ _ _ _ (by omega), gt_set _ _ _ _ (by omega), if_neg (by omega), if_neg (by omega)]
    exact ⟨rfl, rfl⟩
  have hq : ((v - l.start).toNat : Int) = v - l.start := by omega
  have hdl : (l.L.drop (v - l.start).toNat).length = l.L.length - (v - l.start).toNat := List.length_drop
  have hkF : kF (cutM l v) = kF l - (v - l.start).toNat := by unfold kF cutM; simp only; omega
  refine ⟨w1, ⟨h.hl.j, h.hl.nd, hep, ?_, ?_, ?_, ?_, ?_, ?_⟩, h.hs, h.hnd, h.he, h.cut, ?_, ?_, ?_, ?_⟩
  · show 1 ≤ v ∧ v ≤ _; omega
  · show v - 1 ≤ l.flushed ∧ l.flushed < v + ((l.L.drop (v - l.start).toNat).length : Int); rw [hdl]; omega
  · show ((l.L.drop (v - l.start).toNat).length : Int) ≤ l.j.log ∧ v + ((l.L.drop (v - l.start).toNat).length : Int) ≤ _; rw [hdl]; omega
  · exact fun r hr => h.hl.may r (List.mem_of_mem_drop hr)
  · exact fun r hr => h.hl.by' r (List.mem_of_mem_drop hr)
  · intro i hi
    show (gt (l.L.drop (v - l.start).toNat) i).lsn = v + i
    rw [gt_drop, h.hl.lsn _ (by have hi : i < (l.L.drop (v - l.start).toNat).length := hi; rw [hdl] at hi; omega)]
    omega
  · refine ⟨l.epoch, ?_, by omega, by omega, ?_, ?_⟩
    · show headV (gt (write1 d (headAt l.j l.node) (headS v l.epoch)).S (headAt l.j l.node).toNat) = _
      have := hrb 1
      have := hhr 1
      rw [hS, gt_set _ _ _ _ (by omega), if_pos rfl]
      exact headV_headS ⟨by omega, by omega⟩ hep
    · show max1 l.epoch ≤ l.epoch
      unfold max1; split <;> omega
    · exact chain_const (e := l.epoch) (by unfold max1; split <;> omega) hee
  · exact fun r hr => h.own r (List.mem_of_mem_drop hr)
  · intro i hi
    rw [hkF] at hi
    show at1 _ l.j l.node (v + i) = half (gt (l.L.drop (v - l.start).toNat) i) 0 ∧ at2 _ l.j l.node (v + i) = half (gt (l.L.drop (v - l.start).toNat) i) 1
    rw [(hat _).1, (hat _).2, gt_drop]
    have := h.std ((v - l.start).toNat + i) (by omega)
    rw [show l.start + (((v - l.start).toNat + i : Nat) : Int) = v + i by omega] at this
    exact this
  · intro m r hr
    have hr : getM (at1 (write1 d (headAt l.j l.node) (headS v l.epoch)) l.j l.node m) (at2 (write1 d (headAt l.j l.node) (headS v l.epoch)) l.j l.node m) = some r := hr
    rw [(hat m).1, (hat m).2] at hr
    exact h.old m r hr
def log0 (j : Jb) (n : Int) : Lo := ⟨j, n, 1, 1, 0, []⟩
theorem devN_ok {j : Jb} (hj : MayJ j) : DOK (devN j) := by
  have := sects_bd hj
  have := hj.n
  exact devI_ok (by omega) (by omega) (by omega)
theorem devN_S {j : Jb} (i : Nat) : gt (devN j).S i = zeroS := by
  show gt (List.replicate _ zeroS) i = zeroS
  unfold gt
  rw [List.getElem?_replicate]
  split <;> rfl
theorem new_inv {j : Jb} (hj : MayJ j) {n : Int} (hn : 0 ≤ n ∧ n < j.nodes) : Inv (devN j) (log0 j n) := by
  have hb := sects_bd hj
  have hjn := hj.n
  refine ⟨devN_ok hj, ⟨hj, hn, by show (1 : Int) ≤ 1 ∧ (1 : Int) ≤ 2147483647; omega, by show (1 : Int) ≤ 1 ∧ (1 : Int) ≤ 2147483647; omega, by show (1 : Int) - 1 ≤ 0 ∧ (0 : Int) < 1 + (([] : List Rec).length : Int); simp, by show ((([] : List Rec).length : Nat) : Int) ≤ j.log ∧ (1 : Int) + (([] : List Rec).length : Int) ≤ _; have := hj.l; simp; omega, (fun r hr => by cases hr), (fun r hr => by cases hr), (fun i hi => by cases hi)⟩, ?_, hn.2, ?_, rfl, ?_, (fun r hr => by cases hr), (fun i hi => ?_), (fun m r hr => ?_)⟩
  · show sects j = ((sects j).toNat : Int); omega
  · show (1 : Int) = (if n.toNat < j.nodes.toNat then 1 else 0)
    rw [if_pos (by omega)]
  · refine ⟨0, ?_, by omega, by omega, ?_, trivial⟩
    · rw [devN_S]; exact headV_zero
    · show max1 0 ≤ 1; unfold max1; simp
  · have : kF (log0 j n) = 0 := rfl
    omega
  · unfold at1 at2 at hr
    rw [devN_S, devN_S, getM_zero] at hr
    cases hr
end Go.Proofs.Ytpennfojidpmeaa
namespace Go.Proofs.Ytpennfojidpmeaa
open Go.Sx
set_option maxRecDepth 20000
theorem a5 : aggB Try.prog 5 = some false := by kernel_rfl
theorem asIxaM {d : Den} {t el : TypeId} {n len c a i r b off z : Nat} {fk : FloatKind} {k : IntKind} {q : Int} (hu : Program.underlying Try.prog t = some (.slice el)) (hn : sizeB Try.prog el = some n) (ho : d.o a = mSl b len c z) (h0 : 1 ≤ len) (hv : d.v i = .int k q) (h1 : 0 ≤ q) (h2 : q < len)
    (hr : d.o r = .pointer (some ⟨b, off, none⟩)) (hoff : off = 0 + q.toNat * n) : @AK.Ok d Try.prog (.ixa t (.chan (some a)) (.float fk i)) (.chan (some r)) := asIxa hu hn (ho.trans (mSl_pos h0)) hv h1 h2 hr hoff
theorem ldF {d : Den} {t kk id j c i : Nat} {S : List Rec} {v u : Value} (hi : i < S.length) (hc : c < 101) (ha : aggB Try.prog t = some false) (ho : d.o kk = .pointer (some ⟨id, 0 + i * 101 + c, none⟩)) (hj : d.row j = enc recL S) (hu : (recL (gt S i))[c]? = some u) (hcv : @cv d [] DEP v = some u) : @LdE.Ok d Try.prog ⟨t, kk, id, j, v⟩ := by
  refine ld_one ha ho ?_ hcv
  have h := enc_at (f := recL) recL_len hi
  rw [hj, ← hu, ← h, List.getElem?_take, if_pos hc, List.getElem?_drop, Nat.zero_add]
def apM (l : Lo) (p : Int) (v : Ver) : Lo := { l with L := l.L ++ [⟨l.node, l.epoch, l.start + l.L.length, p, v.psn, v.body⟩] }
theorem append_E {l : Lo} (hl : LOK l) {p : Int} {v : Ver} (h : ApOK l p v) (hr : roomM l ≠ 0) : Ctr Try.prog 20 [pt 2 0, iv p, .agg (verV v).toArray] (logR l 3 false) (.tuple #[iv (l.start + l.L.length), iv 0]) [(2, .row 62 (.lst (logRow (apM l p v) 4)) false), (3, .dead), (4, rowOr 47 (enc recL (apM l p v).L) false), (0, .dead)] :=
  Ctr.reB (Ctr.addDead (append_ok hl h hr) 3 rfl) fun i => match i with
    | 0 => rfl | 1 => rfl | 2 => rfl | 3 => rfl | 4 => rfl | _ + 5 => rfl
theorem cut_E {l : Lo} (hl : LOK l) {d : Dv} (hd : DOK d) {v : Int} (hv : l.start ≤ v ∧ v ≤ l.flushed + 1) (hs : sects l.j = d.n) (hnd : l.node < d.nd) (hlo : LeftOK d) (he : l.epoch = d.e l.node.toNat) : Ctr Try.prog 18 [pt 2 0, iv v] (devH d false ++ logA l 3 false) (iv 0) (devH (write1 d (headAt l.j l.node) (headS v l.epoch)) false ++ [(2, .row 62 (.lst (logRow (cutM l v) 4)) false), (3, .dead), (4, rowOr 47 (enc recL (cutM l v).L) false)]) :=
  Ctr.reB (Ctr.addDead (cut_ok hl hd hv hs hnd hlo he) 3 rfl) fun i => match i with
    | 0 => rfl | 1 => rfl | 2 => rfl | 3 => rfl | 4 => rfl | _ + 5 => rfl
def fixN (d r : Dv) : Dv := ⟨d.n, r.S, r.e, r.nd, r.cut, r.left, r.lost, r.done⟩
def flW (l : Lo) (d : Dv) : Dv := fixN d (flushD l (l.L.drop (kF l)) d)
def flL (l : Lo) : Lo := { l with flushed := l.start + l.L.length - 1 }
theorem flushD_n (l : Lo) : ∀ (rs : List Rec) (d : Dv), (flushD l rs d).n = d.n
  | [], _ => rfl
  | _ :: rs, _ => flushD_n l rs _
theorem flW_eq (l : Lo) (d : Dv) : flW l d = flushD l (l.L.drop (kF l)) d := by
  have h := flushD_n l (l.L.drop (kF l)) d
  unfold flW fixN
  rw [← h]
theorem flush_E {l : Lo} (hl : LOK l) {d : Dv} (hd : DOK d) (hlo : LeftOK d) (hdn : d.done ≤ 800000000) (hs : sects l.j = d.n) (hnd : l.node < d.nd) (he : kF l < l.L.length → l.epoch = d.e l.node.toNat) : Ctr Try.prog 17 [pt 2 0] (devH d false ++ logA l 3 false) (iv 0) (devH (flW l d) false ++ logA (flL l) 3 false) := by
  rw [flW_eq]
  exact flush_ok hl hd hlo hdn hs hnd he
def jR (p : Int) : Jb := ⟨2, 1, 1, p, 2⟩
theorem jR_may {p : Int} (h : 2 ≤ p ∧ p ≤ 64) : MayJ (jR p) := ⟨show (2 : Int) ≤ 2 ∧ (2 : Int) ≤ 8 by decide, show (1 : Int) ≤ 1 ∧ (1 : Int) ≤ 16 by decide, show (1 : Int) ≤ 1 ∧ (1 : Int) ≤ 16 by decide, h, show (2 : Int) ≤ 2 ∧ (2 : Int) ≤ 100 by decide⟩
def vR (i : Int) : Ver := ⟨i, fun x => if x = 0 then i % 256 else 0⟩
noncomputable abbrev dR (p n k : Int) (d : Dv) (l : Lo) (i : Int) : Den := denQ ([iv p, iv n, iv k] ++ devC d ++ logC l ++ [iv i]) rfl [.v (.slice (some ⟨2, 0, none⟩) d.n d.n), ow 4 l.L.length INF] rfl [enc secL d.S, enc recL l.L] (PL.cons (enc_plain secL_plain _) (PL.cons (enc_plain recL_plain _) no_rows))
noncomputable def xR : Cfg := headC (hd 3 0) .normal [(0, sv 0), (1, sv 1), (2, sv 2), (7, pt 0 0), (8, pt 1 0), (9, pt 3 0), (11, sv 25)] 154 5 [(0, .row 24 (.lst [iv 2, iv 1, iv 1, sv 0, iv 2]) false), (1, .row 95 (.lst (ch 0 :: svs 3 13)) false), (2, .orow 114 0 false), (3, .row 62 (.lst (pt 1 0 :: (svs 16 9 ++ [ch 1]))) false), (4, .mrow 47 1 false)]
abbrev GR (p n k : Int) (d : Dv) (l : Lo) (i : Int) : Prop := GoodS (dR p n k d l i) Try.prog 3 [] (.bool true) [] [] xR
noncomputable abbrev dR2 (p n k : Int) (l : Lo) (t : Nat) : Den := denQ [iv p, iv n, iv k, iv l.start, iv (t : Int)] rfl [om 1 l.L.length INF] rfl [enc recL l.L] (PL.cons (enc_plain recL_plain _) no_rows)
noncomputable def xR2 : Cfg := headC (hd 3 1) .normal [(1, sv 1), (14, sv 3), (15, ch 0), (16, sv 4)] 154 2 [(1, .mrow 47 0 false)]
abbrev GR2 (p n k : Int) (l : Lo) (t : Nat) : Prop := GoodS (dR2 p n k l t) Try.prog 3 [] (.bool true) [] [] xR2
section
variable {p n k : Int}
theorem r_guard (hg : ¬ (2 ≤ p ∧ p ≤ 64 ∧ (0 ≤ n ∧ n ≤ 300) ∧ 0 ≤ k ∧ k < p)) : Ctr Try.prog 3 [iv p, iv n, iv k] [] (.bool true) [] := by
  · by_cases h0 : ((p) : Int) < (2)
    · skip
      exact pth (denQ [.int .i64 (p), .int .i64 (n), .int .i64 (k)] rfl [] rfl [] no_rows) ⟨[(.bin .lss 3 (sv 0) (.int .i64 2), .bool true)], [], []⟩ [(12, [⟨[], 0, [], [], [], .bool true⟩])] ⟨qT ((p) < (2)) (by omega), trivial⟩ trivial trivial ⟨oe known_ctr, trivial⟩ 0 ([]) [sv 0, sv 1, sv 2] []
    · by_cases h1 : ((p) : Int) > (64)
      · skip
        exact pth (denQ [.int .i64 (p), .int .i64 (n), .int .i64 (k)] rfl [] rfl [] no_rows) ⟨[(.bin .lss 3 (sv 0) (.int .i64 2), .bool false), (.bin .gtr 3 (sv 0) (.int .i64 64), .bool true)], [], []⟩ [(12, [⟨[], 0, [], [], [], .bool true⟩])] ⟨qF ((p) < (2)) (by omega), qT ((p) > (64)) (by omega), trivial⟩ trivial trivial ⟨oe known_ctr, trivial⟩ 0 ([]) [sv 0, sv 1, sv 2] []
      · by_cases h2 : ((n) : Int) < (0)
        · skip
          exact pth (denQ [.int .i64 (p), .int .i64 (n), .int .i64 (k)] rfl [] rfl [] no_rows) ⟨[(.bin .lss 3 (sv 0) (.int .i64 2), .bool false), (.bin .gtr 3 (sv 0) (.int .i64 64), .bool false), (.bin .lss 3 (sv 1) (.int .i64 0), .bool true)], [], []⟩ [(12, [⟨[], 0, [], [], [], .bool true⟩])] ⟨qF ((p) < (2)) (by omega), qF ((p) > (64)) (by omega), qT ((n) < (0)) (by omega), trivial⟩ trivial trivial ⟨oe known_ctr, trivial⟩ 0 ([]) [sv 0, sv 1, sv 2] []
        · by_cases h3 : ((n) : Int) > (300)
          · skip
            exact pth (denQ [.int .i64 (p), .int .i64 (n), .int .i64 (k)] rfl [] rfl [] no_rows) ⟨[(.bin .lss 3 (sv 0) (.int .i64 2), .bool false), (.bin .gtr 3 (sv 0) (.int .i64 64), .bool false), (.bin .lss 3 (sv 1) (.int .i64 0), .bool false), (.bin .gtr 3 (sv 1) (.int .i64 300), .bool true)], [], []⟩ [(12, [⟨[], 0, [], [], [], .bool true⟩])] ⟨qF ((p) < (2)) (by omega), qF ((p) > (64)) (by omega), qF ((n) < (0)) (by omega), qT ((n) > (300)) (by omega), trivial⟩ trivial trivial ⟨oe known_ctr, trivial⟩ 0 ([]) [sv 0, sv 1, sv 2] []
          · by_cases h4 : ((k) : Int) < (0)
            · skip
              exact pth (denQ [.int .i64 (p), .int .i64 (n), .int .i64 (k)] rfl [] rfl [] no_rows) ⟨[(.bin .lss 3 (sv 0) (.int .i64 2), .bool false), (.bin .gtr 3 (sv 0) (.int .i64 64), .bool false), (.bin .lss 3 (sv 1) (.int .i64 0), .bool false), (.bin .gtr 3 (sv 1) (.int .i64 300), .bool false), (.bin .lss 3 (sv 2) (.int .i64 0), .bool true)], [], []⟩ [(12, [⟨[], 0, [], [], [], .bool true⟩])] ⟨qF ((p) < (2)) (by omega), qF ((p) > (64)) (by omega), qF ((n) < (0)) (by omega), qF ((n) > (300)) (by omega), qT ((k) < (0)) (by omega), trivial⟩ trivial trivial ⟨oe known_ctr, trivial⟩ 0 ([]) [sv 0, sv 1, sv 2] []
            · by_cases h5 : ((k) : Int) ≥ (p)
              · skip
                exact pth (denQ [.int .i64 (p), .int .i64 (n), .int .i64 (k)] rfl [] rfl [] no_rows) ⟨[(.bin .lss 3 (sv 0) (.int .i64 2), .bool false), (.bin .gtr 3 (sv 0) (.int .i64 64), .bool false), (.bin .lss 3 (sv 1) (.int .i64 0), .bool false), (.bin .gtr 3 (sv 1) (.int .i64 300), .bool false), (.bin .lss 3 (sv 2) (.int .i64 0), .bool false), (.bin .geq 3 (sv 2) (sv 0), .bool true)], [], []⟩ [(12, [⟨[], 0, [], [], [], .bool true⟩])] ⟨qF ((p) < (2)) (by omega), qF ((p) > (64)) (by omega), qF ((n) < (0)) (by omega), qF ((n) > (300)) (by omega), qF ((k) < (0)) (by omega), qT ((k) ≥ (p)) (by omega), trivial⟩ trivial trivial ⟨oe known_ctr, trivial⟩ 0 ([]) [sv 0, sv 1, sv 2] []
              · exact absurd ⟨by omega, by omega, by omega, by omega, by omega⟩ hg
theorem r_start (h1 : 2 ≤ p ∧ p ≤ 64) (h2 : 0 ≤ n ∧ n ≤ 300) (h3 : 0 ≤ k ∧ k < p) (hnew : Ctr Try.prog 14 [jobV (jR p)] [] (pt 0 0) (devH (devN (jR p)) false)) (hopen : Ctr Try.prog 15 [pt 0 0, jobV (jR p), iv 0, iv 1] (devH (devN (jR p)) false) (.tuple #[pt 2 0, iv 0]) (devH (devN (jR p)) false ++ logA (log0 (jR p) 0) 3 false))
    (hg : GR p n k (devN (jR p)) (log0 (jR p) 0) 1) : Ctr Try.prog 3 [iv p, iv n, iv k] [] (.bool true) [] := by
  · exact g0 (denQ ([.int .i64 (p), .int .i64 (n), .int .i64 (k)] ++ devC (devN (jR p)) ++ devC (devN (jR p)) ++ logC (log0 (jR p) 0)) rfl [.v (.slice (some ⟨3, 0, none⟩) (devN (jR p)).n (devN (jR p)).n), ow 5 (log0 (jR p) 0).L.length INF] rfl [enc secL (devN (jR p)).S, enc secL (devN (jR p)).S, enc recL (log0 (jR p) 0).L] (PL.cons (enc_plain secL_plain _) (PL.cons (enc_plain secL_plain _) (PL.cons (enc_plain recL_plain _) no_rows)))) (dR p n k (devN (jR p)) (log0 (jR p) 0) 1) ⟨[(.bin .lss 3 (sv 0) (.int .i64 2), .bool false), (.bin .gtr 3 (sv 0) (.int .i64 64), .bool false), (.bin .lss 3 (sv 1) (.int .i64 0), .bool false), (.bin .gtr 3 (sv 1) (.int .i64 300), .bool false), (.bin .lss 3 (sv 2) (.int .i64 0), .bool false), (.bin .geq 3 (sv 2) (sv 0), .bool false)], [], []⟩ [(14, [⟨[.agg #[.int .i64 2, .int .i64 1, .int .i64 1, sv 0, .int .i64 2]], 2, [], [], [(0, .row 95 (.lst ([.chan (some 0)] ++ svs 3 13)) false), (1, .orow 114 0 false)], .pointer (some ⟨2, 0, none⟩)⟩]), (15, [⟨[.pointer (some ⟨2, 0, none⟩), .agg #[.int .i64 2, .int .i64 1, .int .i64 1, sv 0, .int .i64 2], .int .i64 0, .int .i64 1], 4, [], [⟨2, 0, false, .row 95 (.lst ([.chan (some 0)] ++ svs 3 13)) false, .row 95 (.lst ([.chan (some 0)] ++ svs 16 13)) false⟩, ⟨3, 1, false, .orow 114 0 false, .orow 114 1 false⟩], [(2, .row 62 (.lst ([.pointer (some ⟨2, 0, none⟩)] ++ svs 29 9 ++ [.chan (some 1)])) false), (3, .mrow 47 2 false)], .tuple #[.pointer (some ⟨4, 0, none⟩), .int .i64 0]⟩])] ⟨qF ((p) < (2)) (by omega), qF ((p) > (64)) (by omega), qF ((n) < (0)) (by omega), qF ((n) > (300)) (by omega), qF ((k) < (0)) (by omega), qF ((k) ≥ (p)) (by omega), trivial⟩ trivial trivial ⟨oe hnew, oe hopen, trivial⟩ 23 0 [] [sv 0, sv 1, sv 2] [(1, 0), (2, 1), (3, 2), (4, 3), (5, 4)] hg
variable {d : Dv} {l : Lo} {i : Int}
theorem r_a (hl : LOK l) (h2 : 0 ≤ n ∧ n ≤ 300) (hi : 1 ≤ i ∧ i ≤ n) (hx : l.start + l.L.length = i) (hr : roomM l ≠ 0) (happ : Ctr Try.prog 20 [pt 2 0, iv 0, .agg (verV (vR i)).toArray] (logR l 3 false) (.tuple #[iv (l.start + l.L.length), iv 0]) [(2, .row 62 (.lst (logRow (apM l 0 (vR i)) 4)) false), (3, .dead), (4, rowOr 47 (enc recL (apM l 0 (vR i)).L) false), (0, .dead)])
    (hg : GR p n k d (apM l 0 (vR i)) (i + 1)) : GR p n k d l i := by
  · exact gS (denQ ([.int .i64 (p), .int .i64 (n), .int .i64 (k)] ++ devC d ++ logC l ++ [.int .i64 (i), .int .i64 (roomM l), .int .u8 ((i) % 256)] ++ logC (apM l 0 (vR i)) ++ [.int .i64 ((l.start + l.L.length)), .int .i64 ((i) + (1))]) rfl [.v (.slice (some ⟨2, 0, none⟩) d.n d.n), ow 4 l.L.length INF, ow 7 (apM l 0 (vR i)).L.length INF] rfl [enc secL d.S, enc recL l.L, enc recL (apM l 0 (vR i)).L] (PL.cons (enc_plain secL_plain _) (PL.cons (enc_plain recL_plain _) (PL.cons (enc_plain recL_plain _) no_rows)))) (dR p n k d (apM l 0 (vR i)) (i + 1)) ⟨[(.bin .leq 3 (sv 25) (sv 1), .bool true), (.bin .eql 3 (sv 26) (.int .i64 0), .bool false), (.conv 3 5 (sv 25), sv 27), (.bin .neq 2 (sv 37) (sv 25), .bool false), (.bin .add 3 (sv 25) (.int .i64 1), sv 38)], [], []⟩ [(16, [⟨[.pointer (some ⟨3, 0, none⟩)], 5, [(1, 0)], [⟨3, 2, true, .row 62 (.lst ([.pointer (some ⟨1, 0, none⟩)] ++ svs 16 9 ++ [.chan (some 1)])) false, .row 62 (.lst ([.pointer (some ⟨1, 0, none⟩)] ++ svs 16 9 ++ [.chan (some 1)])) false⟩, ⟨4, 3, true, .mrow 47 1 false, .mrow 47 1 false⟩], [], sv 26⟩]), (20, [⟨[.pointer (some ⟨3, 0, none⟩), .int .i64 0, .agg ([sv 25, sv 27, .int .u8 0, .int .u8 0, .int .u8 0, .int .u8 0, .int .u8 0, .int .u8 0, .int .u8 0, .int .u8 0, .int .u8 0, .int .u8 0, .int .u8 0, .int .u8 0, .int .u8 0, .int .u8 0, .int .u8 0, .int .u8 0, .int .u8 0, .int .u8 0, .int .u8 0, .int .u8 0, .int .u8 0, .int .u8 0, .int .u8 0, .int .u8 0, .int .u8 0, .int .u8 0, .int .u8 0, .int .u8 0, .int .u8 0, .int .u8 0, .int .u8 0, .int .u8 0, .int .u8 0, .int .u8 0, .int .u8 0, .int .u8 0, .int .u8 0, .int .u8 0, .int .u8 0, .int .u8 0, .int .u8 0, .int .u8 0, .int .u8 0, .int .u8 0, .int .u8 0, .int .u8 0, .int .u8 0, .int .u8 0, .int .u8 0, .int .u8 0, .int .u8 0, .int .u8 0, .int .u8 0, .int .u8 0, .int .u8 0, .int .u8 0, .int .u8 0, .int .u8 0, .int .u8 0, .int .u8 0, .int .u8 0, .int .u8 0, .int .u8 0, .int .u8 0, .int .u8 0, .int .u8 0, .int .u8 0, .int .u8 0, .int .u8 0, .int .u8 0, .int .u8 0, .int .u8 0, .int .u8 0, .int .u8 0, .int .u8 0, .int .u8 0, .int .u8 0, .int .u8 0, .int .u8 0, .int .u8 0, .int .u8 0, .int .u8 0, .int .u8 0, .int .u8 0, .int .u8 0, .int .u8 0, .int .u8 0, .int .u8 0, .int .u8 0, .int .u8 0, .int .u8 0, .int .u8 0, .int .u8 0, .int .u8 0, .int .u8 0]).toArray], 7, [(1, 0)], [⟨3, 2, false, .row 62 (.lst ([.pointer (some ⟨1, 0, none⟩)] ++ svs 16 9 ++ [.chan (some 1)])) false, .row 62 (.lst ([.pointer (some ⟨1, 0, none⟩)] ++ svs 28 9 ++ [.chan (some 2)])) false⟩, ⟨4, 3, false, .mrow 47 1 false, .dead⟩], [(4, .mrow 47 2 false)], .tuple #[sv 37, .int .i64 0]⟩])] ⟨qT ((i) ≤ (n)) (by omega), eF (roomM l) (0) (by omega), aq (.int .u8 ((i) % 256)) (.int .u8 (IntKind.u8.wrap (i))) (convU8 (i)), nF ((l.start + l.L.length)) (i) (by omega), aq (.int .i64 ((i) + (1))) (.int .i64 (IntKind.i64.wrap ((i) + (1)))) (wVi64 ((i) + (1)) (by omega) (by omega)), trivial⟩ trivial trivial ⟨oe (room_ctr hl), oe happ, trivial⟩ 18 [(0, 0), (1, 1), (2, 2), (3, 3), (7, 4)] hg
theorem r_b (hl : LOK l) (h2 : 0 ≤ n ∧ n ≤ 300) (h3 : 0 ≤ k ∧ k < 64) (hi : 1 ≤ i ∧ i ≤ n) (hx : l.start + l.L.length = i) (hx2 : ((cutM (flL l) (l.start + l.L.length - k)).start + (cutM (flL l) (l.start + l.L.length - k)).L.length : Int) = i) (hr : roomM l = 0) (hflush : Ctr Try.prog 17 [pt 2 0] (devH d false ++ logA l 3 false) (iv 0) (devH (flW l d) false ++ logA (flL l) 3 false))
    (hnext : Ctr Try.prog 19 [pt 2 0] (logR (flL l) 3 true) (iv ((flL l).start + (flL l).L.length)) [(0, .dead)]) (hcut : Ctr Try.prog 18 [pt 2 0, iv (l.start + l.L.length - k)] (devH (flW l d) false ++ logA (flL l) 3 false) (iv 0) (devH (write1 (flW l d) (headAt l.j l.node) (headS (l.start + l.L.length - k) l.epoch)) false ++ [(2, .row 62 (.lst (logRow (cutM (flL l) (l.start + l.L.length - k)) 4)) false), (3, .dead), (4, rowOr 47 (enc recL (cutM (flL l) (l.start + l.L.length - k)).L) false)]))
    (happ : Ctr Try.prog 20 [pt 2 0, iv 0, .agg (verV (vR i)).toArray] (logR (cutM (flL l) (l.start + l.L.length - k)) 3 false) (.tuple #[iv ((cutM (flL l) (l.start + l.L.length - k)).start + (cutM (flL l) (l.start + l.L.length - k)).L.length), iv 0]) [(2, .row 62 (.lst (logRow (apM (cutM (flL l) (l.start + l.L.length - k)) 0 (vR i)) 4)) false), (3, .dead), (4, rowOr 47 (enc recL (apM (cutM (flL l) (l.start + l.L.length - k)) 0 (vR i)).L) false), (0, .dead)])
    (hg : GR p n k (write1 (flW l d) (headAt l.j l.node) (headS (l.start + l.L.length - k) l.epoch)) (apM (cutM (flL l) (l.start + l.L.length - k)) 0 (vR i)) (i + 1)) : GR p n k d l i := by
  have u1 : (flL l).start = l.start := rfl
  have u2 : (flL l).L.length = l.L.length := rfl
  · exact gS (denQ ([.int .i64 (p), .int .i64 (n), .int .i64 (k)] ++ devC d ++ logC l ++ [.int .i64 (i), .int .i64 (roomM l)] ++ devC (flW l d) ++ logC (flL l) ++ [.int .i64 (((flL l).start + (flL l).L.length)), .int .i64 ((((flL l).start + (flL l).L.length)) - (k))] ++ devC (write1 (flW l d) (headAt l.j l.node) (headS (l.start + l.L.length - k) l.epoch)) ++ logC (cutM (flL l) (l.start + l.L.length - k)) ++ [.int .u8 ((i) % 256)] ++ logC (apM (cutM (flL l) (l.start + l.L.length - k)) 0 (vR i)) ++ [.int .i64 (((cutM (flL l) (l.start + l.L.length - k)).start + (cutM (flL l) (l.start + l.L.length - k)).L.length)), .int .i64 ((i) + (1))]) rfl [.v (.slice (some ⟨2, 0, none⟩) d.n d.n), ow 4 l.L.length INF, ow 4 (flL l).L.length INF, ow 5 (cutM (flL l) (l.start + l.L.length - k)).L.length INF, ow 8 (apM (cutM (flL l) (l.start + l.L.length - k)) 0 (vR i)).L.length INF] rfl [enc secL d.S, enc recL l.L, enc secL (flW l d).S, enc recL (flL l).L, enc secL (write1 (flW l d) (headAt l.j l.node) (headS (l.start + l.L.length - k) l.epoch)).S, enc recL (cutM (flL l) (l.start + l.L.length - k)).L, enc recL (apM (cutM (flL l) (l.start + l.L.length - k)) 0 (vR i)).L] (PL.cons (enc_plain secL_plain _) (PL.cons (enc_plain recL_plain _) (PL.cons (enc_plain secL_plain _) (PL.cons (enc_plain recL_plain _) (PL.cons (enc_plain secL_plain _) (PL.cons (enc_plain recL_plain _) (PL.cons (enc_plain recL_plain _) no_rows)))))))) (dR p n k (write1 (flW l d) (headAt l.j l.node) (headS (l.start + l.L.length - k) l.epoch)) (apM (cutM (flL l) (l.start + l.L.length - k)) 0 (vR i)) (i + 1)) ⟨[(.bin .leq 3 (sv 25) (sv 1), .bool true), (.bin .eql 3 (sv 26) (.int .i64 0), .bool true), (.bin .sub 2 (sv 49) (sv 2), sv 50), (.conv 3 5 (sv 25), sv 73), (.bin .neq 2 (sv 83) (sv 25), .bool false), (.bin .add 3 (sv 25) (.int .i64 1), sv 84)], [], []⟩ [(16, [⟨[.pointer (some ⟨3, 0, none⟩)], 5, [(1, 0)], [⟨3, 2, true, .row 62 (.lst ([.pointer (some ⟨1, 0, none⟩)] ++ svs 16 9 ++ [.chan (some 1)])) false, .row 62 (.lst ([.pointer (some ⟨1, 0, none⟩)] ++ svs 16 9 ++ [.chan (some 1)])) false⟩, ⟨4, 3, true, .mrow 47 1 false, .mrow 47 1 false⟩], [], sv 26⟩]), (17, [⟨[.pointer (some ⟨3, 0, none⟩)], 5, [], [⟨1, 0, false, .row 95 (.lst ([.chan (some 0)] ++ svs 3 13)) false, .row 95 (.lst ([.chan (some 0)] ++ svs 27 13)) false⟩, ⟨2, 1, false, .orow 114 0 false, .orow 114 2 false⟩, ⟨3, 2, false, .row 62 (.lst ([.pointer (some ⟨1, 0, none⟩)] ++ svs 16 9 ++ [.chan (some 1)])) false, .row 62 (.lst ([.pointer (some ⟨1, 0, none⟩)] ++ svs 40 9 ++ [.chan (some 2)])) false⟩, ⟨4, 3, false, .mrow 47 1 false, .mrow 47 3 false⟩], [], .int .i64 0⟩]), (19, [⟨[.pointer (some ⟨3, 0, none⟩)], 5, [(1, 0)], [⟨3, 2, true, .row 62 (.lst ([.pointer (some ⟨1, 0, none⟩)] ++ svs 40 9 ++ [.chan (some 2)])) false, .row 62 (.lst ([.pointer (some ⟨1, 0, none⟩)] ++ svs 40 9 ++ [.chan (some 2)])) false⟩, ⟨4, 3, true, .mrow 47 3 false, .mrow 47 3 false⟩], [], sv 49⟩]), (18, [⟨[.pointer (some ⟨3, 0, none⟩), sv 50], 5, [], [⟨1, 0, false, .row 95 (.lst ([.chan (some 0)] ++ svs 27 13)) false, .row 95 (.lst ([.chan (some 0)] ++ svs 51 13)) false⟩, ⟨2, 1, false, .orow 114 2 false, .orow 114 4 false⟩, ⟨3, 2, false, .row 62 (.lst ([.pointer (some ⟨1, 0, none⟩)] ++ svs 40 9 ++ [.chan (some 2)])) false, .row 62 (.lst ([.pointer (some ⟨1, 0, none⟩)] ++ svs 64 9 ++ [.chan (some 3)])) false⟩, ⟨4, 3, false, .mrow 47 3 false, .dead⟩], [(4, .mrow 47 5 false)], .int .i64 0⟩]), (20, [⟨[.pointer (some ⟨3, 0, none⟩), .int .i64 0, .agg ([sv 25, sv 73, .int .u8 0, .int .u8 0, .int .u8 0, .int .u8 0, .int .u8 0, .int .u8 0, .int .u8 0, .int .u8 0, .int .u8 0, .int .u8 0, .int .u8 0, .int .u8 0, .int .u8 0, .int .u8 0, .int .u8 0, .int .u8 0, .int .u8 0, .int .u8 0, .int .u8 0, .int .u8 0, .int .u8 0, .int .u8 0, .int .u8 0, .int .u8 0, .int .u8 0, .int .u8 0, .int .u8 0, .int .u8 0, .int .u8 0, .int .u8 0, .int .u8 0, .int .u8 0, .int .u8 0, .int .u8 0, .int .u8 0, .int .u8 0, .int .u8 0, .int .u8 0, .int .u8 0, .int .u8 0, .int .u8 0, .int .u8 0, .int .u8 0, .int .u8 0, .int .u8 0, .int .u8 0, .int .u8 0, .int .u8 0, .int .u8 0, .int .u8 0, .int .u8 0, .int .u8 0, .int .u8 0, .int .u8 0, .int .u8 0, .int .u8 0, .int .u8 0, .int .u8 0, .int .u8 0, .int .u8 0, .int .u8 0, .int .u8 0, .int .u8 0, .int .u8 0, .int .u8 0, .int .u8 0, .int .u8 0, .int .u8 0, .int .u8 0, .int .u8 0, .int .u8 0, .int .u8 0, .int .u8 0, .int .u8 0, .int .u8 0, .int .u8 0, .int .u8 0, .int .u8 0, .int .u8 0, .int .u8 0, .int .u8 0, .int .u8 0, .int .u8 0, .int .u8 0, .int .u8 0, .int .u8 0, .int .u8 0, .int .u8 0, .int .u8 0, .int .u8 0, .int .u8 0, .int .u8 0, .int .u8 0, .int .u8 0, .int .u8 0]).toArray], 8, [(1, 0)], [⟨3, 2, false, .row 62 (.lst ([.pointer (some ⟨1, 0, none⟩)] ++ svs 64 9 ++ [.chan (some 3)])) false, .row 62 (.lst ([.pointer (some ⟨1, 0, none⟩)] ++ svs 74 9 ++ [.chan (some 4)])) false⟩, ⟨5, 3, false, .mrow 47 5 false, .dead⟩], [(4, .mrow 47 6 false)], .tuple #[sv 83, .int .i64 0]⟩])] ⟨qT ((i) ≤ (n)) (by omega), eT (roomM l) (0) (by omega), aq (.int .i64 ((((flL l).start + (flL l).L.length)) - (k))) (.int .i64 (IntKind.i64.wrap ((((flL l).start + (flL l).L.length)) - (k)))) (wVi64 ((((flL l).start + (flL l).L.length)) - (k)) (by omega) (by omega)), aq (.int .u8 ((i) % 256)) (.int .u8 (IntKind.u8.wrap (i))) (convU8 (i)), nF (((cutM (flL l) (l.start + l.L.length - k)).start + (cutM (flL l) (l.start + l.L.length - k)).L.length)) (i) (by omega), aq (.int .i64 ((i) + (1))) (.int .i64 (IntKind.i64.wrap ((i) + (1)))) (wVi64 ((i) + (1)) (by omega) (by omega)), trivial⟩ trivial trivial ⟨oe (room_ctr hl), oe hflush, oe hnext, oe hcut, oe happ, trivial⟩ 18 [(0, 0), (1, 1), (2, 2), (3, 3), (8, 4)] hg
theorem r_end (hl : LOK l) (h2 : 0 ≤ n ∧ n ≤ 300) (hi : i = n + 1) (hx : l.start + l.L.length = i) (hflush : Ctr Try.prog 17 [pt 2 0] (devH d false ++ logA l 3 false) (iv 0) (devH (flW l d) false ++ logA (flL l) 3 false))
    (hread : Ctr Try.prog 22 [pt 0 0, jobV (jR p), iv 0] (devH (flW l d) true) (.tuple #[iv l.start, mSl 2 l.L.length INF 0, iv 0]) [(2, rowOr 47 (enc recL l.L) false)]) (hg : GR2 p n k l 0) : GR p n k d l i := by
  have ⟨t1, t2⟩ := hl.st
  have ⟨l1, l2⟩ := hl.ln
  have ⟨d1, d2⟩ := hl.j.l
  · exact gS (denQ ([.int .i64 (p), .int .i64 (n), .int .i64 (k)] ++ devC d ++ logC l ++ [.int .i64 (i)] ++ devC (flW l d) ++ logC (flL l) ++ [.int .i64 (l.L.length), .int .i64 ((l.start) + (l.L.length)), .int .i64 ((n) + (1))]) rfl [.v (.slice (some ⟨2, 0, none⟩) d.n d.n), ow 4 l.L.length INF, ow 4 (flL l).L.length INF, om 5 l.L.length INF] rfl [enc secL d.S, enc recL l.L, enc secL (flW l d).S, enc recL (flL l).L, enc recL l.L] (PL.cons (enc_plain secL_plain _) (PL.cons (enc_plain recL_plain _) (PL.cons (enc_plain secL_plain _) (PL.cons (enc_plain recL_plain _) (PL.cons (enc_plain recL_plain _) no_rows)))))) (dR2 p n k l 0) ⟨[(.bin .leq 3 (sv 25) (sv 1), .bool false), (.len 43 (.chan (some 3)), sv 48), (.bin .add 2 (sv 23) (sv 48), sv 49), (.bin .add 2 (sv 1) (.int .i64 1), sv 50), (.bin .neq 2 (sv 49) (sv 50), .bool false)], [], []⟩ [(17, [⟨[.pointer (some ⟨3, 0, none⟩)], 5, [], [⟨1, 0, false, .row 95 (.lst ([.chan (some 0)] ++ svs 3 13)) false, .row 95 (.lst ([.chan (some 0)] ++ svs 26 13)) false⟩, ⟨2, 1, false, .orow 114 0 false, .orow 114 2 false⟩, ⟨3, 2, false, .row 62 (.lst ([.pointer (some ⟨1, 0, none⟩)] ++ svs 16 9 ++ [.chan (some 1)])) false, .row 62 (.lst ([.pointer (some ⟨1, 0, none⟩)] ++ svs 39 9 ++ [.chan (some 2)])) false⟩, ⟨4, 3, false, .mrow 47 1 false, .mrow 47 3 false⟩], [], .int .i64 0⟩]), (22, [⟨[.pointer (some ⟨1, 0, none⟩), .agg #[.int .i64 2, .int .i64 1, .int .i64 1, sv 0, .int .i64 2], .int .i64 0], 5, [], [⟨1, 0, true, .row 95 (.lst ([.chan (some 0)] ++ svs 26 13)) false, .row 95 (.lst ([.chan (some 0)] ++ svs 26 13)) false⟩, ⟨2, 1, true, .orow 114 2 false, .orow 114 2 false⟩], [(2, .mrow 47 4 false)], .tuple #[sv 23, .chan (some 3), .int .i64 0]⟩])] ⟨qF ((i) ≤ (n)) (by omega), asLen u43 rfl (by kernel_rfl), aq (.int .i64 ((l.start) + (l.L.length))) (.int .i64 (IntKind.i64.wrap ((l.start) + (l.L.length)))) (wVi64 ((l.start) + (l.L.length)) (by omega) (by omega)), aq (.int .i64 ((n) + (1))) (.int .i64 (IntKind.i64.wrap ((n) + (1)))) (wVi64 ((n) + (1)) (by omega) (by omega)), nF ((l.start) + (l.L.length)) ((n) + (1)) (by omega), trivial⟩ trivial trivial ⟨oe hflush, oe hread, trivial⟩ 20 [(5, 1)] hg
theorem r_fin {t : Nat} (ht : t < l.L.length) (hl : LOK l) (hs : (gt l.L t).lsn = l.start + t ∧ (gt l.L t).psn = l.start + t ∧ (gt l.L t).body 0 = (l.start + t) % 256) (hg : GR2 p n k l (t + 1)) : GR2 p n k l t := by
  have ⟨t1, t2⟩ := hl.st
  have ⟨l1, l2⟩ := hl.ln
  have ⟨d1, d2⟩ := hl.j.l
  have s1 : (gt l.L ((t : Int)).toNat).lsn = l.start + t := hs.1
  have s2 : (gt l.L ((t : Int)).toNat).psn = l.start + t := hs.2.1
  have s3 : (gt l.L ((t : Int)).toNat).body 0 = (l.start + t) % 256 := hs.2.2
  · exact gS (denQ [.int .i64 (p), .int .i64 (n), .int .i64 (k), .int .i64 (l.start), .int .i64 ((t : Int)), .int .i64 (l.L.length), .int .i64 ((l.start) + ((t : Int))), .int .i64 (((gt l.L (((t : Int)) : Int).toNat).lsn)), .int .i64 (((gt l.L (((t : Int)) : Int).toNat).psn)), .int .u8 (((gt l.L (((t : Int)) : Int).toNat).body 0)), .int .u8 (((l.start) + ((t : Int))) % 256), .int .i64 (((t : Int)) + (1))] rfl [om 1 l.L.length INF, .v (.pointer (some ⟨1, 0 + (((t : Int)) : Int).toNat * 101, none⟩)), .v (.pointer (some ⟨1, 0 + (((t : Int)) : Int).toNat * 101 + 2, none⟩)), .v (.pointer (some ⟨1, 0 + (((t : Int)) : Int).toNat * 101 + 4, none⟩)), .v (.pointer (some ⟨1, 0 + (((t : Int)) : Int).toNat * 101 + 5, none⟩)), .v (.pointer (some ⟨1, 0 + (((t : Int)) : Int).toNat * 101 + 5, none⟩))] rfl [enc recL l.L] (PL.cons (enc_plain recL_plain _) no_rows)) (dR2 p n k l (t + 1)) ⟨[(.len 43 (.chan (some 0)), sv 5), (.bin .lss 3 (sv 4) (sv 5), .bool true), (.bin .add 2 (sv 3) (sv 4), sv 6), (.ixa 43 (.chan (some 0)) (sv 4), .chan (some 1)), (.fa 47 (.chan (some 1)) 2, .chan (some 2)), (.bin .neq 2 (sv 7) (sv 6), .bool false), (.fa 47 (.chan (some 1)) 4, .chan (some 3)), (.bin .neq 2 (sv 8) (sv 6), .bool false), (.fa 47 (.chan (some 1)) 5, .chan (some 4)), (.ixa 39 (.chan (some 4)) (.int .i64 0), .chan (some 5)), (.conv 2 5 (sv 6), sv 10), (.bin .neq 5 (sv 9) (sv 10), .bool false), (.bin .add 3 (sv 4) (.int .i64 1), sv 11)], [⟨2, 2, 1, 0, sv 7⟩, ⟨2, 3, 1, 0, sv 8⟩, ⟨5, 5, 1, 0, sv 9⟩], []⟩ [] ⟨asLen u43 rfl (by kernel_rfl), qT (((t : Int)) < (l.L.length)) (by omega), aq (.int .i64 ((l.start) + ((t : Int)))) (.int .i64 (IntKind.i64.wrap ((l.start) + ((t : Int))))) (wVi64 ((l.start) + ((t : Int))) (by omega) (by omega)), asIxaM u43 z47 rfl (by omega) rfl (by omega) (by omega) rfl rfl, asm_fa (by kernel_rfl), nF (((gt l.L (((t : Int)) : Int).toNat).lsn)) ((l.start) + ((t : Int))) (by omega), asm_fa (by kernel_rfl), nF (((gt l.L (((t : Int)) : Int).toNat).psn)) ((l.start) + ((t : Int))) (by omega), asm_fa (by kernel_rfl), asm_ixa (by kernel_rfl), aq (.int .u8 (((l.start) + ((t : Int))) % 256)) (.int .u8 (IntKind.u8.wrap ((l.start) + ((t : Int))))) (convU8 ((l.start) + ((t : Int)))), nF (((gt l.L (((t : Int)) : Int).toNat).body 0)) (((l.start) + ((t : Int))) % 256) (by omega), aq (.int .i64 (((t : Int)) + (1))) (.int .i64 (IntKind.i64.wrap (((t : Int)) + (1)))) (wVi64 (((t : Int)) + (1)) (by omega) (by omega)), trivial⟩ ⟨ldF (S := l.L) (c := 2) (i := (((t : Int)) : Int).toNat) (by omega) (by decide) a2 rfl rfl rfl (by kernel_rfl), ldF (S := l.L) (c := 4) (i := (((t : Int)) : Int).toNat) (by omega) (by decide) a2 rfl rfl rfl (by kernel_rfl), ldF (S := l.L) (c := 5) (i := (((t : Int)) : Int).toNat) (by omega) (by decide) a5 rfl rfl rfl (by kernel_rfl), trivial⟩ trivial trivial 14 [(1, 1)] hg
theorem r_fend {t : Nat} (ht : l.L.length ≤ t) : GR2 p n k l t := by
  · exact gF (denQ [.int .i64 (p), .int .i64 (n), .int .i64 (k), .int .i64 (l.start), .int .i64 ((t : Int)), .int .i64 (l.L.length)] rfl [om 1 l.L.length INF] rfl [enc recL l.L] (PL.cons (enc_plain recL_plain _) no_rows)) ⟨[(.len 43 (.chan (some 0)), sv 5), (.bin .lss 3 (sv 4) (sv 5), .bool false)], [], []⟩ [(12, [⟨[], 2, [], [], [], .bool true⟩])] ⟨asLen u43 rfl (by kernel_rfl), qF (((t : Int)) < (l.L.length)) (by omega), trivial⟩ trivial trivial ⟨oe known_ctr, trivial⟩ 10 []
end
end Go.Proofs.Ytpennfojidpmeaa
namespace Go.Proofs.Ytpennfojidpmeaa
open Go.Sx
set_option maxRecDepth 20000
structure RInv (p : Int) (d : Dv) (l : Lo) (i : Int) : Prop where
  inv : Inv d l
  j : l.j = jR p
  n : l.node = 0
  e : l.epoch = 1
  x : l.start + l.L.length = i
  c : ∀ t, t < l.L.length → (gt l.L t).psn = l.start + t ∧ (gt l.L t).body 0 = (l.start + t) % 256
  dn : d.done ≤ 200 * i + 1000
  ee : ∀ r ∈ l.L, r.epoch = 1
theorem vR_byte (i : Int) : Byte (vR i).body := fun x => by
  show 0 ≤ (if x = 0 then i % 256 else 0) ∧ (if x = 0 then i % 256 else 0) < 256
  split <;> omega
theorem ap_RInv {p : Int} {d : Dv} {l : Lo} {i : Int} (h : RInv p d l i) (hi : 1 ≤ i ∧ i ≤ 300) (hr : roomM l ≠ 0) : RInv p d (apM l 0 (vR i)) (i + 1) := by
  have hx := h.x
  have hap : ApOK l 0 (vR i) := ⟨Int.le_refl _, by rw [h.j]; show (0 : Int) < 1; decide, hi.1, by show i ≤ _; omega⟩
  refine ⟨append_inv h.inv hap hr (vR_byte i) (fun t ht => by show (if t = 0 then i % 256 else 0) = 0; rw [if_neg (by omega)]), h.j, h.n, h.e, ?_, fun t ht => ?_, by have := h.dn; omega, fun r hr => ?_⟩
  · show l.start + ((l.L ++ [_]).length : Int) = i + 1
    simp only [List.length_append, List.length_singleton]; omega
  · have ht : t < (l.L ++ [(⟨l.node, l.epoch, l.start + l.L.length, 0, (vR i).psn, (vR i).body⟩ : Rec)]).length := ht
    simp only [List.length_append, List.length_singleton] at ht
    show (gt (l.L ++ [(⟨l.node, l.epoch, l.start + l.L.length, 0, (vR i).psn, (vR i).body⟩ : Rec)]) t).psn = l.start + t ∧ (gt (l.L ++ [(⟨l.node, l.epoch, l.start + l.L.length, 0, (vR i).psn, (vR i).body⟩ : Rec)]) t).body 0 = (l.start + t) % 256
    by_cases h1 : t < l.L.length
    · rw [gt_app_lt _ _ h1]; exact h.c t h1
    · have : t = l.L.length := by omega
      subst this
      rw [gt_app_eq, hx]
      exact ⟨rfl, rfl⟩
  · rcases List.mem_append.1 hr with hr | hr
    · exact h.ee r hr
    · rw [List.mem_singleton.1 hr]; exact h.e
theorem fl_RInv {p : Int} {d : Dv} {l : Lo} {i : Int} (h : RInv p d l i) (hi : 1 ≤ i ∧ i ≤ 301) : Inv (flW l d) (flL l) ∧ (flW l d).done ≤ d.done + 128 := by
  have hk := kF_le h.inv.hl
  have hln := h.inv.hl.ln
  have hlg := h.inv.hl.j.l
  have hdn := h.dn
  have hf := flush_inv (l.L.length - kF l) h.inv (by omega) (by omega)
  rw [flW_eq]
  exact ⟨hf.1, by omega⟩
theorem fin_all {p n k : Int} {l : Lo} (hl : LOK l) (hc : ∀ t, t < l.L.length → (gt l.L t).psn = l.start + t ∧ (gt l.L t).body 0 = (l.start + t) % 256) : ∀ (m t : Nat), t + m = l.L.length → GR2 p n k l t
  | 0, t, h => r_fend (by omega)
  | m + 1, t, h => r_fin (by omega) hl ⟨hl.lsn t (by omega), (hc t (by omega)).1, (hc t (by omega)).2⟩ (fin_all hl hc m (t + 1) (by omega))
theorem rounds_all {p n k : Int} (h1 : 2 ≤ p ∧ p ≤ 64) (h2 : 0 ≤ n ∧ n ≤ 300) (h3 : 0 ≤ k ∧ k < p) : ∀ (m : Nat) (i : Int) (d : Dv) (l : Lo), i + m = n + 1 → 1 ≤ i → RInv p d l i → GR p n k d l i
  | 0, i, d, l, hm, hi, h => by
    have hl := h.inv.hl
    have hdn := h.dn
    obtain ⟨f1, f2⟩ := fl_RInv h (by omega)
    have hfl := flush_E hl h.inv.hd h.inv.left (by omega) h.inv.hs h.inv.hnd (fun _ => h.inv.he)
    obtain ⟨e', q1, q2, q3, _, q5⟩ := f1.head
    have hrd := read_ok f1.hd f1.hl.j f1.hs f1.hl.nd f1.hl.st ⟨q2, q3⟩ q1
    rw [read_inv f1 q5] at hrd
    have hk : kF (flL l) = l.L.length := by
      have := hl.fl
      have := (kF_le f1.hl).2
      have e1 : (flL l).flushed = l.start + l.L.length - 1 := rfl
      have e2 : (flL l).start = l.start := rfl
      omega
    rw [hk] at hrd
    have ht : (flL l).L.take l.L.length = l.L := List.take_length
    rw [ht] at hrd
    have e3 : (flL l).j = jR p := h.j
    have e4 : (flL l).node = 0 := h.n
    rw [e3, e4] at hrd
    exact r_end hl h2 (by omega) h.x hfl hrd (fin_all hl h.c _ 0 (Nat.zero_add _))
  | m + 1, i, d, l, hm, hi, h => by
    have hl := h.inv.hl
    have hdn := h.dn
    have hx := h.x
    have hap : ∀ l' : Lo, l'.j = jR p → ApOK l' 0 (vR i) := fun l' e => ⟨Int.le_refl _, by rw [e]; show (0 : Int) < 1; decide, hi, by show i ≤ _; omega⟩
    by_cases hr : roomM l = 0
    · obtain ⟨f1, f2⟩ := fl_RInv h (by omega)
      have hfl := flush_E hl h.inv.hd h.inv.left (by omega) h.inv.hs h.inv.hnd (fun _ => h.inv.he)
      have hln := hl.ln
      have hlog : l.j.log = p := by rw [h.j]; rfl
      have hlen : (l.L.length : Int) = p := by
        unfold roomM at hr
        split at hr <;> omega
      have e1 : (flL l).start = l.start := rfl
      have e2 : (flL l).flushed = l.start + l.L.length - 1 := rfl
      have e5 : (flL l).L = l.L := rfl
      have e6 : (flL l).j = l.j := rfl
      have hv : (flL l).start ≤ l.start + l.L.length - k ∧ l.start + l.L.length - k ≤ (flL l).flushed + 1 := by rw [e1, e2]; omega
      have hct := cut_E f1.hl f1.hd hv f1.hs f1.hnd f1.left f1.he
      have hci := cut_inv f1 hv (fun r hr => (h.ee r (List.mem_of_mem_drop hr)).trans h.e.symm) (by omega)
      have hci : Inv (write1 (flW l d) (headAt l.j l.node) (headS (l.start + l.L.length - k) l.epoch)) (cutM (flL l) (l.start + l.L.length - k)) := hci
      have hcl : (cutM (flL l) (l.start + l.L.length - k)).L.length = l.L.length - (l.L.length - k).toNat := by
        show (l.L.drop (l.start + l.L.length - k - l.start).toNat).length = _
        rw [List.length_drop]; omega
      have hx2 : (cutM (flL l) (l.start + l.L.length - k)).start + (cutM (flL l) (l.start + l.L.length - k)).L.length = i := by
        rw [hcl]
        show l.start + l.L.length - k + _ = i
        omega
      have hr2 : roomM (cutM (flL l) (l.start + l.L.length - k)) ≠ 0 := by
        unfold roomM
        rw [hx2, if_neg (by omega), hcl]
        show l.j.log - _ ≠ 0
        omega
      have hw := (write1_ok f1.hd f1.left (headAt l.j l.node) (headS_byte (l.start + l.L.length - k) l.epoch) (by omega)).2.2
      have hR : RInv p (write1 (flW l d) (headAt l.j l.node) (headS (l.start + l.L.length - k) l.epoch)) (cutM (flL l) (l.start + l.L.length - k)) i ∨ True := .inr trivial
      have hap2 := append_E hci.hl (hap _ h.j) hr2
      refine r_b hl h2 (by omega) (by omega) hx hx2 hr hfl (next_ctr f1.hl) hct hap2 ?_
      have hcc : ∀ t, t < (cutM (flL l) (l.start + l.L.length - k)).L.length → (gt (cutM (flL l) (l.start + l.L.length - k)).L t).psn = (cutM (flL l) (l.start + l.L.length - k)).start + t ∧ (gt (cutM (flL l) (l.start + l.L.length - k)).L t).body 0 = ((cutM (flL l) (l.start + l.L.length - k)).start + t) % 256 := fun t ht => by
        rw [hcl] at ht
        show (gt (l.L.drop (l.start + l.L.length - k - l.start).toNat) t).psn = l.start + l.L.length - k + t ∧ (gt (l.L.drop (l.start + l.L.length - k - l.start).toNat) t).body 0 = (l.start + l.L.length - k + t) % 256
        rw [gt_drop]
        have := h.c ((l.start + l.L.length - k - l.start).toNat + t) (by omega)
        rw [show l.start + (((l.start + l.L.length - k - l.start).toNat + t : Nat) : Int) = l.start + l.L.length - k + t by omega] at this
        exact this
      have hdw : (write1 (flW l d) (headAt l.j l.node) (headS (l.start + l.L.length - k) l.epoch)).done ≤ d.done + 129 := by omega
      have hnew : RInv p (write1 (flW l d) (headAt l.j l.node) (headS (l.start + l.L.length - k) l.epoch)) (apM (cutM (flL l) (l.start + l.L.length - k)) 0 (vR i)) (i + 1) := by
        have ha := append_inv hci (hap _ h.j) hr2 (vR_byte i) (fun t ht => by show (if t = 0 then i % 256 else 0) = 0; rw [if_neg (by omega)])
        refine ⟨ha, h.j, h.n, h.e, ?_, fun t ht => ?_, by omega, fun r hr => ?_⟩
        · show (cutM (flL l) (l.start + l.L.length - k)).start + (((cutM (flL l) (l.start + l.L.length - k)).L ++ [_]).length : Int) = i + 1
          simp only [List.length_append, List.length_singleton]; omega
        · generalize hcm : cutM (flL l) (l.start + l.L.length - k) = lc at *
          have ht : t < (lc.L ++ [(⟨lc.node, lc.epoch, lc.start + lc.L.length, 0, (vR i).psn, (vR i).body⟩ : Rec)]).length := ht
          simp only [List.length_append, List.length_singleton] at ht
          show (gt (lc.L ++ [(⟨lc.node, lc.epoch, lc.start + lc.L.length, 0, (vR i).psn, (vR i).body⟩ : Rec)]) t).psn = lc.start + t ∧ (gt (lc.L ++ [(⟨lc.node, lc.epoch, lc.start + lc.L.length, 0, (vR i).psn, (vR i).body⟩ : Rec)]) t).body 0 = (lc.start + t) % 256
          by_cases h1 : t < lc.L.length
          · rw [gt_app_lt _ _ h1]; exact hcc t h1
          · have : t = lc.L.length := by omega
            subst this
            rw [gt_app_eq, hx2]
            exact ⟨rfl, rfl⟩
        · rcases List.mem_append.1 hr with hr | hr
          · exact h.ee r (List.mem_of_mem_drop hr)
          · rw [List.mem_singleton.1 hr]; exact h.e
      exact rounds_all h1 h2 h3 m (i + 1) _ _ (by omega) (by omega) hnew
    · exact r_a hl h2 (by omega) hx hr (append_E hl (hap l h.j) hr) (rounds_all h1 h2 h3 m (i + 1) _ _ (by omega) (by omega) (ap_RInv h (by omega) hr))
theorem open_new {j : Jb} (hj : MayJ j) {n : Int} (hn : 0 ≤ n ∧ n < j.nodes) : Ctr Try.prog 15 [pt 0 0, jobV j, iv n, iv 1] (devH (devN j) false) (.tuple #[pt 2 0, iv 0]) (devH (devN j) false ++ logA (log0 j n) 3 false) := by
  have h := new_inv hj hn
  obtain ⟨e', q1, q2, q3, _, q4⟩ := h.head
  have ho := open_ok h.hd hj h.hs hn (s := 1) (ep := 1) ⟨Int.le_refl _, by decide⟩ ⟨Int.le_refl _, by decide⟩ ⟨q2, q3⟩ q1
  have hr := read_inv h q4
  have hr : scanL (devN j) j n j.log.toNat 1 (max1 e') = [] := hr
  rw [hr] at ho
  exact ho
theorem rounds_ctr (p n k : Int) : Ctr Try.prog 3 [iv p, iv n, iv k] [] (.bool true) [] := by
  by_cases hg : 2 ≤ p ∧ p ≤ 64 ∧ (0 ≤ n ∧ n ≤ 300) ∧ 0 ≤ k ∧ k < p
  · obtain ⟨a1, a2, a3, a4, a5⟩ := hg
    have hj := jR_may ⟨a1, a2⟩
    have hi := new_inv hj (n := 0) ⟨Int.le_refl _, show (0 : Int) < 2 by decide⟩
    refine r_start ⟨a1, a2⟩ a3 ⟨a4, a5⟩ (new_ctr hj) (open_new hj ⟨Int.le_refl _, show (0 : Int) < 2 by decide⟩) ?_
    exact rounds_all ⟨a1, a2⟩ a3 ⟨a4, a5⟩ n.toNat 1 _ _ (by omega) (Int.le_refl _) ⟨hi, rfl, rfl, rfl, rfl, (fun t ht => by cases ht), by show ((2 : Int).toNat : Int) ≤ _; decide, (fun r hr => by cases hr)⟩
  · exact r_guard hg
end Go.Proofs.Ytpennfojidpmeaa
namespace Go.Proofs.Ytpennfojidpmeaa
open Go.Sx
theorem call_plain {P : Program} {g : FuncId} {w : World} {args : List Value} (hp : args.all plainS = true) (hc : Ctr P g args [] (.bool true) []) : Calls P g args.toArray w fun e w' => e = .returned (.bool true) ∧ Go.RowKit.Below w.heap.size w w' := by
  have hargs : LR0 (fun _ => none) args args := @LR.cleanL den0 _ _ (List.all_eq_true.2 fun x hx => plain_clean (List.all_eq_true.1 hp x hx))
  have := hc.2 w (fun _ => False) (fun _ => none) args (@HR.start den0 P w) hargs Fence.wide 0 ⟨fun _ => trivial, rfl⟩
  exact (callsIn_wide.1 this).mono fun e w' ⟨v', E', h1, _, h3, h4⟩ => ⟨by cases h4; exact h1, (@HR.keeps den0 _ _ _ _ _ _ h3).below⟩
end Go.Proofs.Ytpennfojidpmeaa

import Derived.Test.YtjpgnjaobfbojaaQe
import Derived.Test.YtjpgnjaobfbojaaRows
namespace Go.Proofs.Ytjpgnjaobfbojaa
open Go.Sx
theorem mixed : Try.prog.follows .mixedOrders = true := by kernel_rfl
structure St where
  x : Int
  owner : Int
  sh : Nat → Bool
  pa : Nat → Bool
  ops : Nat → Int
  hn : Int
  hk : Int
  wt : Int
  go : Nat → Bool
  su : Int
  op : Int
  line : List (Int × Int)
def cells (s : St) (lv : Value) : List Value :=
  [.int .i64 s.x, .int .i64 s.owner, .bool (s.sh 0), .bool (s.sh 1), .bool (s.sh 2), .bool (s.sh 3), .bool (s.sh 4), .bool (s.sh 5), .bool (s.sh 6), .bool (s.sh 7),
   .bool (s.pa 0), .bool (s.pa 1), .bool (s.pa 2), .bool (s.pa 3), .bool (s.pa 4), .bool (s.pa 5), .bool (s.pa 6), .bool (s.pa 7),
   .int .i64 (s.ops 0), .int .i64 (s.ops 1), .int .i64 (s.ops 2), .int .i64 (s.ops 3), .int .i64 (s.ops 4), .int .i64 (s.ops 5), .int .i64 (s.ops 6), .int .i64 (s.ops 7),
   lv, .int .i64 s.hn, .int .i64 s.hk, .int .i64 s.wt,
   .bool (s.go 0), .bool (s.go 1), .bool (s.go 2), .bool (s.go 3), .bool (s.go 4), .bool (s.go 5), .bool (s.go 6), .bool (s.go 7), .int .i64 s.su, .int .i64 s.op]
def syms (pin : List (Nat × Value)) : List Value := (List.range 40).map fun i => match pin.lookup i with
  | some v => v
  | none => bif Nat.beq i 26 then .chan (some 0) else .float .f64 i
def sv (i : Nat) : Value := .float .f64 i
def vals (s : St) (more : List Value) : List Value := cells s (.bool false) ++ more
theorem vals_plain (s : St) (more : List Value) (h : more.all plainS = true) : (vals s more).all plainS = true := by
  simp [vals, cells, plainS, h]
def bookH (T : TypeId) (s : St) (lv : Value) : HL := [(0, .row T (.lst (cells s lv)) false), (1, .dead)]
def lockP : List Value := [.pointer (some ⟨0, 0, none⟩)]
def bookL (T : TypeId) (pin : List (Nat × Value)) : HL := [(0, .row T (.lst (syms pin)) false), (1, .dead)]
theorem u31 : Go.Program.underlying Try.prog 31 = some (.slice 34) := by kernel_rfl
def upd {α : Type} (f : Nat → α) (n : Nat) (v : α) : Nat → α := fun k => if k = n then v else f k
def bitsV (f : Nat → Bool) : Value := .agg #[.bool (f 0), .bool (f 1), .bool (f 2), .bool (f 3), .bool (f 4), .bool (f 5), .bool (f 6), .bool (f 7)]
def bitsL (f : Nat → Bool) : List Value := [.bool (f 0), .bool (f 1), .bool (f 2), .bool (f 3), .bool (f 4), .bool (f 5), .bool (f 6), .bool (f 7)]
end Go.Proofs.Ytjpgnjaobfbojaa
namespace Go.Proofs.Ytjpgnjaobfbojaa
open Go.Sx
structure Ord where
  kind : Int
  to : Int
  op : Int
  mode : Int
  node : Int
  psn : Int
def encOrd (o : Ord) : List Value := [.int .i64 o.kind, .int .i64 o.to, .int .i64 o.op, .int .i64 o.mode, .int .i64 o.node, .int .i64 o.psn]
def encOrds : List Ord → List Value
  | [] => []
  | o :: l => encOrd o ++ encOrds l
theorem encOrds_plain : ∀ l : List Ord, (encOrds l).all plainS = true
  | [] => rfl
  | o :: l => by
    have := encOrds_plain l
    simp only [encOrds, List.all_append, this, Bool.and_true]; rfl
theorem encOrds_len : ∀ l : List Ord, (encOrds l).length = l.length * 6
  | [] => rfl
  | o :: l => by simp [encOrds, encOrds_len l, encOrd]; omega
def ch (i : Nat) : Value := .chan (some i)
instance : Inhabited Ord := ⟨⟨0, 0, 0, 0, 0, 0⟩⟩
theorem one_row {l : List Value} (h : l.all plainS = true) : ∀ r ∈ [l], r.all plainS = true := by
  intro r hr
  rw [List.mem_singleton.1 hr]; exact h
theorem u28 : Go.Program.underlying Try.prog 28 = some (.slice 45) := by kernel_rfl
theorem wrap_id {x : Int} (h1 : -9223372036854775808 ≤ x) (h2 : x ≤ 9223372036854775807) : IntKind.i64.wrap x = x := by
  simp [IntKind.wrap, IntKind.bits, IntKind.signed]
  omega
end Go.Proofs.Ytjpgnjaobfbojaa
namespace Go.Proofs.Ytjpgnjaobfbojaa
open Go.Sx
def listTo (f : Nat → Bool) : Nat → List Int
  | 0 => []
  | i + 1 => if f i = true then listTo f i ++ [(i : Int)] else listTo f i
def encI : List Int → List Value
  | [] => []
  | x :: l => .int .i64 x :: encI l
theorem encI_plain : ∀ l : List Int, (encI l).all plainS = true
  | [] => rfl
  | _ :: l => encI_plain l
theorem encI_len : ∀ l : List Int, (encI l).length = l.length * 1
  | [] => rfl
  | _ :: l => by simp [encI, encI_len l]
theorem encI_app : ∀ l m : List Int, encI (l ++ m) = encI l ++ encI m
  | [], _ => rfl
  | x :: l, m => by simp [encI, encI_app l m]
theorem listTo_len (f : Nat → Bool) : ∀ i, (listTo f i).length ≤ i
  | 0 => Nat.le_refl _
  | i + 1 => by
    have := listTo_len f i
    unfold listTo
    split
    · simp; omega
    · omega
def outI (l : List Int) : Value := if l = [] then .slice none 0 0 else .slice (some ⟨2, 0, none⟩) l.length INF
def outIH (l : List Int) : HL := if l = [] then [] else [(2, .row 3 (.lst (encI l)) false)]
def symB8 : List Value := [sv 0, sv 1, sv 2, sv 3, sv 4, sv 5, sv 6, sv 7]
noncomputable abbrev dLi (f : Nat → Bool) (l : List Int) (i : Nat) : Den :=
  mkDen (bitsL f) rfl [.slice (some ⟨1, 0, none⟩) l.length INF, .slice (some ⟨3, 0, none⟩) (l ++ [(i : Int)]).length INF] rfl [encI l, encI (l ++ [(i : Int)])] (by
    intro r hr
    rcases List.mem_cons.1 hr with rfl | hr
    · exact encI_plain l
    · rw [List.mem_singleton.1 hr]; exact encI_plain _)
theorem elemI : ElemT Try.prog 29 29 3 1 8 (.int .i64 0) := ⟨by kernel_rfl, by kernel_rfl, by kernel_rfl, by kernel_rfl, by kernel_rfl⟩
def eLi (i : Nat) : Entry := { args := [ch 0, .slice (some ⟨2, 0, none⟩) 1 1], c := 3, foots := [⟨1, 0, false, .orow 3 0 false, .dead⟩, ⟨2, 1, true, .row 3 (.lst [.int .i64 (i : Int)]) false, .dead⟩], news := [(2, .orow 3 1 false)], res := ch 1 }
theorem eLi_ok (f : Nat → Bool) (l : List Int) (i : Nat) (hl : l.length < 1000) : @AppOk (dLi f l i) Try.prog [29, 29] (eLi i) := by
  have h := AppC.inf (P := Try.prog) elemI (bl := encI l) (l := [.int .i64 (i : Int)]) (n := l.length) (m := 1) (off := 0) (cp := 1) (T := 3) (encI_len l) (encI_plain l) (by omega) (by simp) rfl (by omega) (by unfold HALF; omega)
  have e1 : l.length + 1 = (l ++ [(i : Int)]).length := by simp
  have e2 : encI l ++ (List.drop 0 [Value.int .i64 (i : Int)]).take (1 * 1) = encI (l ++ [(i : Int)]) := by rw [encI_app]; rfl
  rw [e1, e2] at h
  exact AppOk.mk h rfl (by kernel_rfl) rfl
noncomputable def kL52 : List KI := ((ksteps (@rec ⟨[], [], []⟩ Try.prog noTbl 100) 9 (startC Try.prog 52 [.agg symB8.toArray] 0 [])).map (·.k)).getD []
def fL52 (i : Nat) (s : Value) : FV := [(1, .pointer (some ⟨0, 0, none⟩)), (2, .slice none 0 0), (3, s), (6, .agg symB8.toArray), (7, .int .i64 (i : Int))]
def rL52 : HL := [(0, .row 70 (.lst symB8) false)]
set_option maxRecDepth 20000 in
theorem endL52 (f : Nat → Bool) (l : List Int) (hl : l = listTo f 8) : (l = [] → GoodF (dLi f l 8) Try.prog 52 [] (outI (listTo f 8)) (outIH (listTo f 8)) [] (headC kL52 .normal (fL52 8 (.slice none 0 0)) 18 1 rL52)) ∧
    (l ≠ [] → GoodF (dLi f l 8) Try.prog 52 [] (outI (listTo f 8)) (outIH (listTo f 8)) [] (headC kL52 .normal (fL52 8 (ch 0)) 18 2 (rL52 ++ [(1, .orow 3 0 false)]))) := by
  rw [← hl]
  clear hl
  refine ⟨fun h => ?_, fun h => ?_⟩
  · rw [show outI l = .slice none 0 0 from if_pos h, show outIH l = [] from if_pos h]
    exact GoodF.fin mixed ⟨[], [], []⟩ [] trivial trivial trivial trivial (N := 100) (m := 10) (τ := []) (ros := []) (by kernel_rfl) (by kernel_rfl)
  · rw [show outI l = .slice (some ⟨2, 0, none⟩) l.length INF from if_neg h, show outIH l = [(2, .row 3 (.lst (encI l)) false)] from if_neg h]
    exact GoodF.fin mixed ⟨[], [], []⟩ [] trivial trivial trivial trivial (N := 100) (m := 10) (τ := [(1, 2)]) (ros := []) (by kernel_rfl) (by kernel_rfl)
set_option maxRecDepth 20000 in
theorem stepL52 (f : Nat → Bool) (l : List Int) (i : Nat) (hi : i < 8) (hl : l = listTo f i)
    (next : ∀ l', l' = listTo f (i + 1) → (l' = [] → GoodF (dLi f l' (i + 1)) Try.prog 52 [] (outI (listTo f 8)) (outIH (listTo f 8)) [] (headC kL52 .normal (fL52 (i + 1) (.slice none 0 0)) 18 1 rL52)) ∧
      (l' ≠ [] → GoodF (dLi f l' (i + 1)) Try.prog 52 [] (outI (listTo f 8)) (outIH (listTo f 8)) [] (headC kL52 .normal (fL52 (i + 1) (ch 0)) 18 2 (rL52 ++ [(1, .orow 3 0 false)])))) :
    (l = [] → GoodF (dLi f l i) Try.prog 52 [] (outI (listTo f 8)) (outIH (listTo f 8)) [] (headC kL52 .normal (fL52 i (.slice none 0 0)) 18 1 rL52)) ∧
    (l ≠ [] → GoodF (dLi f l i) Try.prog 52 [] (outI (listTo f 8)) (outIH (listTo f 8)) [] (headC kL52 .normal (fL52 i (ch 0)) 18 2 (rL52 ++ [(1, .orow 3 0 false)]))) := by
  have hlen : l.length < 1000 := by have := listTo_len f i; rw [← hl] at this; omega
  by_cases hb : f i = true
  · have hl' : l ++ [(i : Int)] = listTo f (i + 1) := by rw [listTo, if_pos hb, hl]
    have hne : l ++ [(i : Int)] ≠ [] := by simp
    have nx := (next _ hl').2 hne
    clear next
    generalize outI (listTo f 8) = RES at *
    generalize outIH (listTo f 8) = BB at *
    refine ⟨fun h => ?_, fun h => ?_⟩
    · clear hl'
      subst h
      refine GoodF.seg (d2 := dLi f ([] ++ [(i : Int)]) (i + 1)) mixed ⟨[(.test .f64 i, .bool true)], [], []⟩ [] ⟨asT ?_, trivial⟩ trivial trivial trivial
          (N := 100) (m := 14) (τ := [(0, 0), (2, 1)]) (ros := []) ?_ ?_ (by kernel_rfl) nx
      · obtain rfl | rfl | rfl | rfl | rfl | rfl | rfl | rfl : i = 0 ∨ i = 1 ∨ i = 2 ∨ i = 3 ∨ i = 4 ∨ i = 5 ∨ i = 6 ∨ i = 7 := by omega
        all_goals exact congrArg Value.bool hb
      · obtain rfl | rfl | rfl | rfl | rfl | rfl | rfl | rfl : i = 0 ∨ i = 1 ∨ i = 2 ∨ i = 3 ∨ i = 4 ∨ i = 5 ∨ i = 6 ∨ i = 7 := by omega
        all_goals kernel_rfl
      · obtain rfl | rfl | rfl | rfl | rfl | rfl | rfl | rfl : i = 0 ∨ i = 1 ∨ i = 2 ∨ i = 3 ∨ i = 4 ∨ i = 5 ∨ i = 6 ∨ i = 7 := by omega
        all_goals kernel_rfl
    · have hap := eLi_ok f l i hlen
      clear hl'
      refine GoodF.seg (d2 := dLi f (l ++ [(i : Int)]) (i + 1)) mixed ⟨[(.test .f64 i, .bool true)], [], [([29, 29], eLi i)]⟩ [] ⟨asT ?_, trivial⟩ trivial ⟨hap, trivial⟩ trivial
          (N := 100) (m := 14) (τ := [(0, 0), (3, 1)]) (ros := []) ?_ ?_ (by kernel_rfl) nx
      · obtain rfl | rfl | rfl | rfl | rfl | rfl | rfl | rfl : i = 0 ∨ i = 1 ∨ i = 2 ∨ i = 3 ∨ i = 4 ∨ i = 5 ∨ i = 6 ∨ i = 7 := by omega
        all_goals exact congrArg Value.bool hb
      · obtain rfl | rfl | rfl | rfl | rfl | rfl | rfl | rfl : i = 0 ∨ i = 1 ∨ i = 2 ∨ i = 3 ∨ i = 4 ∨ i = 5 ∨ i = 6 ∨ i = 7 := by omega
        all_goals kernel_rfl
      · obtain rfl | rfl | rfl | rfl | rfl | rfl | rfl | rfl : i = 0 ∨ i = 1 ∨ i = 2 ∨ i = 3 ∨ i = 4 ∨ i = 5 ∨ i = 6 ∨ i = 7 := by omega
        all_goals kernel_rfl
  · have hl' : l = listTo f (i + 1) := by rw [listTo, if_neg hb, hl]
    obtain ⟨n1, n2⟩ := next _ hl'
    have hb := Bool.eq_false_iff.2 hb
    clear next
    generalize outI (listTo f 8) = RES at *
    generalize outIH (listTo f 8) = BB at *
    refine ⟨fun h => ?_, fun h => ?_⟩
    · have nx := n1 h
      clear hl' n1 n2
      refine GoodF.seg (d2 := dLi f l (i + 1)) mixed ⟨[(.test .f64 i, .bool false)], [], []⟩ [] ⟨asT ?_, trivial⟩ trivial trivial trivial
          (N := 100) (m := 14) (τ := [(0, 0)]) (ros := []) ?_ ?_ (by kernel_rfl) nx
      · obtain rfl | rfl | rfl | rfl | rfl | rfl | rfl | rfl : i = 0 ∨ i = 1 ∨ i = 2 ∨ i = 3 ∨ i = 4 ∨ i = 5 ∨ i = 6 ∨ i = 7 := by omega
        all_goals exact congrArg Value.bool hb
      · obtain rfl | rfl | rfl | rfl | rfl | rfl | rfl | rfl : i = 0 ∨ i = 1 ∨ i = 2 ∨ i = 3 ∨ i = 4 ∨ i = 5 ∨ i = 6 ∨ i = 7 := by omega
        all_goals kernel_rfl
      · obtain rfl | rfl | rfl | rfl | rfl | rfl | rfl | rfl : i = 0 ∨ i = 1 ∨ i = 2 ∨ i = 3 ∨ i = 4 ∨ i = 5 ∨ i = 6 ∨ i = 7 := by omega
        all_goals kernel_rfl
    · have nx := n2 h
      clear hl' n1 n2
      refine GoodF.seg (d2 := dLi f l (i + 1)) mixed ⟨[(.test .f64 i, .bool false)], [], []⟩ [] ⟨asT ?_, trivial⟩ trivial trivial trivial
          (N := 100) (m := 14) (τ := [(0, 0), (1, 1)]) (ros := []) ?_ ?_ (by kernel_rfl) nx
      · obtain rfl | rfl | rfl | rfl | rfl | rfl | rfl | rfl : i = 0 ∨ i = 1 ∨ i = 2 ∨ i = 3 ∨ i = 4 ∨ i = 5 ∨ i = 6 ∨ i = 7 := by omega
        all_goals exact congrArg Value.bool hb
      · obtain rfl | rfl | rfl | rfl | rfl | rfl | rfl | rfl : i = 0 ∨ i = 1 ∨ i = 2 ∨ i = 3 ∨ i = 4 ∨ i = 5 ∨ i = 6 ∨ i = 7 := by omega
        all_goals kernel_rfl
      · obtain rfl | rfl | rfl | rfl | rfl | rfl | rfl | rfl : i = 0 ∨ i = 1 ∨ i = 2 ∨ i = 3 ∨ i = 4 ∨ i = 5 ∨ i = 6 ∨ i = 7 := by omega
        all_goals kernel_rfl
set_option maxRecDepth 20000 in
theorem list52_ctr (f : Nat → Bool) : Ctr Try.prog 52 [bitsV f] [] (outI (listTo f 8)) (outIH (listTo f 8)) := by
  have h8 := fun l hl => endL52 f l hl
  have h7 := fun l hl => stepL52 f l 7 (by omega) hl h8
  have h6 := fun l hl => stepL52 f l 6 (by omega) hl h7
  have h5 := fun l hl => stepL52 f l 5 (by omega) hl h6
  have h4 := fun l hl => stepL52 f l 4 (by omega) hl h5
  have h3 := fun l hl => stepL52 f l 3 (by omega) hl h4
  have h2 := fun l hl => stepL52 f l 2 (by omega) hl h3
  have h1 := fun l hl => stepL52 f l 1 (by omega) hl h2
  have h0 := (stepL52 f [] 0 (by omega) rfl h1).1 rfl
  refine Ctr.of_good (d := dLi f [] 0) [] (c0 := 0) (A0 := []) (args0 := [.agg symB8.toArray]) (by kernel_rfl) (by kernel_rfl) (by kernel_rfl) ?_
  exact GoodF.seg (d2 := dLi f [] 0) mixed ⟨[], [], []⟩ [] trivial trivial trivial trivial (N := 100) (m := 9) (τ := [(0, 0)]) (ros := []) (by kernel_rfl) (by kernel_rfl) (by kernel_rfl) h0
noncomputable def kL62 : List KI := ((ksteps (@rec ⟨[], [], []⟩ Try.prog noTbl 100) 9 (startC Try.prog 62 [.agg symB8.toArray] 0 [])).map (·.k)).getD []
def fL62 (i : Nat) (s : Value) : FV := [(1, .pointer (some ⟨0, 0, none⟩)), (2, .slice none 0 0), (3, s), (4, .int .i64 (i : Int))]
def rL62 : HL := [(0, .row 48 (.lst symB8) false)]
set_option maxRecDepth 20000 in
theorem endL62 (f : Nat → Bool) (l : List Int) (hl : l = listTo f 8) : (l = [] → GoodF (dLi f l 8) Try.prog 62 [] (outI (listTo f 8)) (outIH (listTo f 8)) [] (headC kL62 .normal (fL62 8 (.slice none 0 0)) 17 1 rL62)) ∧
    (l ≠ [] → GoodF (dLi f l 8) Try.prog 62 [] (outI (listTo f 8)) (outIH (listTo f 8)) [] (headC kL62 .normal (fL62 8 (ch 0)) 17 2 (rL62 ++ [(1, .orow 3 0 false)]))) := by
  rw [← hl]
  clear hl
  refine ⟨fun h => ?_, fun h => ?_⟩
  · rw [show outI l = .slice none 0 0 from if_pos h, show outIH l = [] from if_pos h]
    exact GoodF.fin mixed ⟨[], [], []⟩ [] trivial trivial trivial trivial (N := 100) (m := 10) (τ := []) (ros := []) (by kernel_rfl) (by kernel_rfl)
  · rw [show outI l = .slice (some ⟨2, 0, none⟩) l.length INF from if_neg h, show outIH l = [(2, .row 3 (.lst (encI l)) false)] from if_neg h]
    exact GoodF.fin mixed ⟨[], [], []⟩ [] trivial trivial trivial trivial (N := 100) (m := 10) (τ := [(1, 2)]) (ros := []) (by kernel_rfl) (by kernel_rfl)
set_option maxRecDepth 20000 in
theorem stepL62 (f : Nat → Bool) (l : List Int) (i : Nat) (hi : i < 8) (hl : l = listTo f i)
    (next : ∀ l', l' = listTo f (i + 1) → (l' = [] → GoodF (dLi f l' (i + 1)) Try.prog 62 [] (outI (listTo f 8)) (outIH (listTo f 8)) [] (headC kL62 .normal (fL62 (i + 1) (.slice none 0 0)) 17 1 rL62)) ∧
      (l' ≠ [] → GoodF (dLi f l' (i + 1)) Try.prog 62 [] (outI (listTo f 8)) (outIH (listTo f 8)) [] (headC kL62 .normal (fL62 (i + 1) (ch 0)) 17 2 (rL62 ++ [(1, .orow 3 0 false)])))) :
    (l = [] → GoodF (dLi f l i) Try.prog 62 [] (outI (listTo f 8)) (outIH (listTo f 8)) [] (headC kL62 .normal (fL62 i (.slice none 0 0)) 17 1 rL62)) ∧
    (l ≠ [] → GoodF (dLi f l i) Try.prog 62 [] (outI (listTo f 8)) (outIH (listTo f 8)) [] (headC kL62 .normal (fL62 i (ch 0)) 17 2 (rL62 ++ [(1, .orow 3 0 false)]))) := by
  have hlen : l.length < 1000 := by have := listTo_len f i; rw [← hl] at this; omega
  by_cases hb : f i = true
  · have hl' : l ++ [(i : Int)] = listTo f (i + 1) := by rw [listTo, if_pos hb, hl]
    have hne : l ++ [(i : Int)] ≠ [] := by simp
    have nx := (next _ hl').2 hne
    clear next
    generalize outI (listTo f 8) = RES at *
    generalize outIH (listTo f 8) = BB at *
    refine ⟨fun h => ?_, fun h => ?_⟩
    · clear hl'
      subst h
      refine GoodF.seg (d2 := dLi f ([] ++ [(i : Int)]) (i + 1)) mixed ⟨[(.test .f64 i, .bool true)], [], []⟩ [] ⟨asT ?_, trivial⟩ trivial trivial trivial
          (N := 100) (m := 12) (τ := [(0, 0), (2, 1)]) (ros := []) ?_ ?_ (by kernel_rfl) nx
      · obtain rfl | rfl | rfl | rfl | rfl | rfl | rfl | rfl : i = 0 ∨ i = 1 ∨ i = 2 ∨ i = 3 ∨ i = 4 ∨ i = 5 ∨ i = 6 ∨ i = 7 := by omega
        all_goals exact congrArg Value.bool hb
      · obtain rfl | rfl | rfl | rfl | rfl | rfl | rfl | rfl : i = 0 ∨ i = 1 ∨ i = 2 ∨ i = 3 ∨ i = 4 ∨ i = 5 ∨ i = 6 ∨ i = 7 := by omega
        all_goals kernel_rfl
      · obtain rfl | rfl | rfl | rfl | rfl | rfl | rfl | rfl : i = 0 ∨ i = 1 ∨ i = 2 ∨ i = 3 ∨ i = 4 ∨ i = 5 ∨ i = 6 ∨ i = 7 := by omega
        all_goals kernel_rfl
    · have hap := eLi_ok f l i hlen
      clear hl'
      refine GoodF.seg (d2 := dLi f (l ++ [(i : Int)]) (i + 1)) mixed ⟨[(.test .f64 i, .bool true)], [], [([29, 29], eLi i)]⟩ [] ⟨asT ?_, trivial⟩ trivial ⟨hap, trivial⟩ trivial
          (N := 100) (m := 12) (τ := [(0, 0), (3, 1)]) (ros := []) ?_ ?_ (by kernel_rfl) nx
      · obtain rfl | rfl | rfl | rfl | rfl | rfl | rfl | rfl : i = 0 ∨ i = 1 ∨ i = 2 ∨ i = 3 ∨ i = 4 ∨ i = 5 ∨ i = 6 ∨ i = 7 := by omega
        all_goals exact congrArg Value.bool hb
      · obtain rfl | rfl | rfl | rfl | rfl | rfl | rfl | rfl : i = 0 ∨ i = 1 ∨ i = 2 ∨ i = 3 ∨ i = 4 ∨ i = 5 ∨ i = 6 ∨ i = 7 := by omega
        all_goals kernel_rfl
      · obtain rfl | rfl | rfl | rfl | rfl | rfl | rfl | rfl : i = 0 ∨ i = 1 ∨ i = 2 ∨ i = 3 ∨ i = 4 ∨ i = 5 ∨ i = 6 ∨ i = 7 := by omega
        all_goals kernel_rfl
  · have hl' : l = listTo f (i + 1) := by rw [listTo, if_neg hb, hl]
    obtain ⟨n1, n2⟩ := next _ hl'
    have hb := Bool.eq_false_iff.2 hb
    clear next
    generalize outI (listTo f 8) = RES at *
    generalize outIH (listTo f 8) = BB at *
    refine ⟨fun h => ?_, fun h => ?_⟩
    · have nx := n1 h
      clear hl' n1 n2
      refine GoodF.seg (d2 := dLi f l (i + 1)) mixed ⟨[(.test .f64 i, .bool false)], [], []⟩ [] ⟨asT ?_, trivial⟩ trivial trivial trivial
          (N := 100) (m := 12) (τ := [(0, 0)]) (ros := []) ?_ ?_ (by kernel_rfl) nx
      · obtain rfl | rfl | rfl | rfl | rfl | rfl | rfl | rfl : i = 0 ∨ i = 1 ∨ i = 2 ∨ i = 3 ∨ i = 4 ∨ i = 5 ∨ i = 6 ∨ i = 7 := by omega
        all_goals exact congrArg Value.bool hb
      · obtain rfl | rfl | rfl | rfl | rfl | rfl | rfl | rfl : i = 0 ∨ i = 1 ∨ i = 2 ∨ i = 3 ∨ i = 4 ∨ i = 5 ∨ i = 6 ∨ i = 7 := by omega
        all_goals kernel_rfl
      · obtain rfl | rfl | rfl | rfl | rfl | rfl | rfl | rfl : i = 0 ∨ i = 1 ∨ i = 2 ∨ i = 3 ∨ i = 4 ∨ i = 5 ∨ i = 6 ∨ i = 7 := by omega
        all_goals kernel_rfl
    · have nx := n2 h
      clear hl' n1 n2
      refine GoodF.seg (d2 := dLi f l (i + 1)) mixed ⟨[(.test .f64 i, .bool false)], [], []⟩ [] ⟨asT ?_, trivial⟩ trivial trivial trivial
          (N := 100) (m := 12) (τ := [(0, 0), (1, 1)]) (ros := []) ?_ ?_ (by kernel_rfl) nx
      · obtain rfl | rfl | rfl | rfl | rfl | rfl | rfl | rfl : i = 0 ∨ i = 1 ∨ i = 2 ∨ i = 3 ∨ i = 4 ∨ i = 5 ∨ i = 6 ∨ i = 7 := by omega
        all_goals exact congrArg Value.bool hb
      · obtain rfl | rfl | rfl | rfl | rfl | rfl | rfl | rfl : i = 0 ∨ i = 1 ∨ i = 2 ∨ i = 3 ∨ i = 4 ∨ i = 5 ∨ i = 6 ∨ i = 7 := by omega
        all_goals kernel_rfl
      · obtain rfl | rfl | rfl | rfl | rfl | rfl | rfl | rfl : i = 0 ∨ i = 1 ∨ i = 2 ∨ i = 3 ∨ i = 4 ∨ i = 5 ∨ i = 6 ∨ i = 7 := by omega
        all_goals kernel_rfl
set_option maxRecDepth 20000 in
theorem list62_ctr (f : Nat → Bool) : Ctr Try.prog 62 [bitsV f] [] (outI (listTo f 8)) (outIH (listTo f 8)) := by
  have h8 := fun l hl => endL62 f l hl
  have h7 := fun l hl => stepL62 f l 7 (by omega) hl h8
  have h6 := fun l hl => stepL62 f l 6 (by omega) hl h7
  have h5 := fun l hl => stepL62 f l 5 (by omega) hl h6
  have h4 := fun l hl => stepL62 f l 4 (by omega) hl h5
  have h3 := fun l hl => stepL62 f l 3 (by omega) hl h4
  have h2 := fun l hl => stepL62 f l 2 (by omega) hl h3
  have h1 := fun l hl => stepL62 f l 1 (by omega) hl h2
  have h0 := (stepL62 f [] 0 (by omega) rfl h1).1 rfl
  refine Ctr.of_good (d := dLi f [] 0) [] (c0 := 0) (A0 := []) (args0 := [.agg symB8.toArray]) (by kernel_rfl) (by kernel_rfl) (by kernel_rfl) ?_
  exact GoodF.seg (d2 := dLi f [] 0) mixed ⟨[], [], []⟩ [] trivial trivial trivial trivial (N := 100) (m := 9) (τ := [(0, 0)]) (ros := []) (by kernel_rfl) (by kernel_rfl) (by kernel_rfl) h0
end Go.Proofs.Ytjpgnjaobfbojaa
namespace Go.Proofs.Ytjpgnjaobfbojaa
open Go.Sx
def firstOf : List Int → Int
  | [] => -1
  | h :: _ => h
def lowest (f : Nat → Bool) : Int := firstOf (listTo f 8)
theorem u29 : Go.Program.underlying Try.prog 29 = some (.slice 3) := by kernel_rfl
theorem z3 : sizeB Try.prog 3 = some 1 := by kernel_rfl
theorem a3 : aggB Try.prog 3 = some false := by kernel_rfl
noncomputable abbrev dLo (f : Nat → Bool) (h : Int) (t : List Int) : Den :=
  mkDen (bitsL f ++ [.int .i64 ((h :: t).length : Int), .int .i64 h]) rfl [.slice (some ⟨1, 0, none⟩) (h :: t).length INF, .pointer (some ⟨1, 0, none⟩)] rfl [encI (h :: t)] (one_row (encI_plain _))
def eNil (res : Value) : Entry := { args := [.agg symB8.toArray], c := 1, foots := [], news := [], res := res }
def eRow : Entry := { args := [.agg symB8.toArray], c := 1, foots := [], news := [(2, .orow 3 0 false)], res := ch 0 }
set_option maxRecDepth 20000 in
theorem lowest_ctr (f : Nat → Bool) : Ctr Try.prog 107 [bitsV f] [] (.int .i64 (lowest f)) [] := by
  have hc := list52_ctr f
  have hl := listTo_len f 8
  unfold lowest
  generalize listTo f 8 = l at hc hl
  cases l with
  | nil =>
    rw [show outI ([] : List Int) = .slice none 0 0 from rfl, show outIH ([] : List Int) = [] from rfl] at hc
    exact Ctr.path mixed (mkDen (bitsL f) rfl [] rfl [] (by simp)) ⟨[], [], []⟩ [(52, [eNil (.slice none 0 0)])] trivial trivial trivial
      ⟨fun e he => by rw [List.mem_singleton.1 he]; exact @EntryOK.mk (mkDen (bitsL f) rfl [] rfl [] (by simp)) _ _ _ _ _ _ _ hc rfl (by kernel_rfl), trivial⟩
      (N := 100) (c0 := 0) (A0 := []) (args0 := [.agg symB8.toArray]) (τ := []) (ros := []) (by kernel_rfl) (by kernel_rfl) (by kernel_rfl)
  | cons h t =>
    rw [show outI (h :: t) = .slice (some ⟨2, 0, none⟩) (h :: t).length INF from rfl, show outIH (h :: t) = [(2, .row 3 (.lst (encI (h :: t))) false)] from rfl] at hc
    refine Ctr.path mixed (dLo f h t) ⟨[(.len 29 (ch 0), sv 8), (.bin .gtr 3 (sv 8) (.int .i64 0), .bool true), (.ixa 29 (ch 0) (.int .i64 0), ch 1)], [⟨3, 1, 1, 0, sv 9⟩], []⟩ [(52, [eRow])]
      ⟨asLen u29 rfl rfl, asB (c := decide (((h :: t).length : Int) > 0)) (by kernel_rfl) (decide_eq_true (by simp only [List.length_cons]; omega)), asIxaN u29 z3 rfl (by omega) (by simp only [List.length_cons]; omega) rfl rfl, trivial⟩
      ⟨ld_one a3 rfl rfl (by kernel_rfl), trivial⟩ trivial
      ⟨fun e he => by rw [List.mem_singleton.1 he]; exact @EntryOK.mk (dLo f h t) _ _ _ _ _ _ _ hc rfl (by kernel_rfl), trivial⟩
      (N := 100) (c0 := 0) (A0 := []) (args0 := [.agg symB8.toArray]) (τ := []) (ros := []) (by kernel_rfl) (by kernel_rfl) (by kernel_rfl)
end Go.Proofs.Ytjpgnjaobfbojaa
namespace Go.Proofs.Ytjpgnjaobfbojaa
open Go.Sx
noncomputable abbrev denG (s : St) (more : List Value) (hm : more.all plainS = true) (opq : List Value) (ho : opq.all oneB = true) (rows : List (List Value)) (hr : ∀ r ∈ rows, r.all plainS = true) : Den := mkDen (vals s more) (vals_plain s more hm) opq ho rows hr
theorem no_rows : ∀ r ∈ ([] : List (List Value)), r.all plainS = true := by simp
theorem entOK {d : Den} {g : FuncId} {e : Entry} {args : List Value} {A : HL} {res : Value} {B : HL} (h : Ctr Try.prog g args A res B) (h1 : entB e = true) (h2 : @entOf d e = some (args, A, res, B)) : @EntryOK d Try.prog g e := @EntryOK.mk d Try.prog g e args A res B h h1 h2
theorem one_entry {d : Den} {g : FuncId} {e : Entry} (h : @EntryOK d Try.prog g e) : ∀ x ∈ [e], @EntryOK d Try.prog g x := fun x hx => by rw [List.mem_singleton.1 hx]; exact h
theorem u70 : Go.Program.underlying Try.prog 70 = some (.array 8 4) := by kernel_rfl
theorem u48 : Go.Program.underlying Try.prog 48 = some (.array 8 4) := by kernel_rfl
theorem u30 : Go.Program.underlying Try.prog 30 = some (.array 8 2) := by kernel_rfl
theorem z4 : sizeB Try.prog 4 = some 1 := by kernel_rfl
theorem z2 : sizeB Try.prog 2 = some 1 := by kernel_rfl
theorem a4 : aggB Try.prog 4 = some false := by kernel_rfl
theorem a2 : aggB Try.prog 2 = some false := by kernel_rfl
theorem lt8 {q : Nat} (h : q < 8) : q = 0 ∨ q = 1 ∨ q = 2 ∨ q = 3 ∨ q = 4 ∨ q = 5 ∨ q = 6 ∨ q = 7 := by omega
section
variable (s : St) (lv : Value) (T : TypeId) {q : Nat}
theorem ld_sh (hq : q < 8) : LdC Try.prog 4 (.pointer (some ⟨0, 2 + q, none⟩)) (bookH T s lv) (.bool (s.sh q)) := by
  refine LdC.cell _ a4 ?_
  rcases lt8 hq with rfl | rfl | rfl | rfl | rfl | rfl | rfl | rfl <;> rfl
theorem ld_go (hq : q < 8) : LdC Try.prog 4 (.pointer (some ⟨0, 30 + q, none⟩)) (bookH T s lv) (.bool (s.go q)) := by
  refine LdC.cell _ a4 ?_
  rcases lt8 hq with rfl | rfl | rfl | rfl | rfl | rfl | rfl | rfl <;> rfl
theorem ld_ops (hq : q < 8) : LdC Try.prog 2 (.pointer (some ⟨0, 18 + q, none⟩)) (bookH T s lv) (.int .i64 (s.ops q)) := by
  refine LdC.cell _ a2 ?_
  rcases lt8 hq with rfl | rfl | rfl | rfl | rfl | rfl | rfl | rfl <;> rfl
theorem st_sh (hq : q < 8) (b : Bool) : StC Try.prog 4 (.pointer (some ⟨0, 2 + q, none⟩)) (.bool b) (bookH T s lv) (bookH T { s with sh := upd s.sh q b } lv) := by
  have e : cells { s with sh := upd s.sh q b } lv = (cells s lv).set (2 + q) (.bool b) := by rcases lt8 hq with rfl | rfl | rfl | rfl | rfl | rfl | rfl | rfl <;> rfl
  unfold bookH
  rw [e]
  exact StC.cell _ z4 (by simp [cells]; omega) rfl rfl
theorem st_pa (hq : q < 8) (b : Bool) : StC Try.prog 4 (.pointer (some ⟨0, 10 + q, none⟩)) (.bool b) (bookH T s lv) (bookH T { s with pa := upd s.pa q b } lv) := by
  have e : cells { s with pa := upd s.pa q b } lv = (cells s lv).set (10 + q) (.bool b) := by rcases lt8 hq with rfl | rfl | rfl | rfl | rfl | rfl | rfl | rfl <;> rfl
  unfold bookH
  rw [e]
  exact StC.cell _ z4 (by simp [cells]; omega) rfl rfl
theorem st_go (hq : q < 8) (b : Bool) : StC Try.prog 4 (.pointer (some ⟨0, 30 + q, none⟩)) (.bool b) (bookH T s lv) (bookH T { s with go := upd s.go q b } lv) := by
  have e : cells { s with go := upd s.go q b } lv = (cells s lv).set (30 + q) (.bool b) := by rcases lt8 hq with rfl | rfl | rfl | rfl | rfl | rfl | rfl | rfl <;> rfl
  unfold bookH
  rw [e]
  exact StC.cell _ z4 (by simp [cells]; omega) rfl rfl
theorem st_ops (hq : q < 8) (v : Int) : StC Try.prog 2 (.pointer (some ⟨0, 18 + q, none⟩)) (.int .i64 v) (bookH T s lv) (bookH T { s with ops := upd s.ops q v } lv) := by
  have e : cells { s with ops := upd s.ops q v } lv = (cells s lv).set (18 + q) (.int .i64 v) := by rcases lt8 hq with rfl | rfl | rfl | rfl | rfl | rfl | rfl | rfl <;> rfl
  unfold bookH
  rw [e]
  exact StC.cell _ z2 (by simp [cells]; omega) rfl rfl
theorem st_set (T : TypeId) {q : Nat} (hq : q < 8) (f : Nat → Bool) (b : Bool) : StC Try.prog 4 (.pointer (some ⟨0, q, none⟩)) (.bool b) [(0, .row T (.lst (bitsL f)) false)] [(0, .row T (.lst (bitsL (upd f q b))) false)] := by
  have e : bitsL (upd f q b) = (bitsL f).set q (.bool b) := by rcases lt8 hq with rfl | rfl | rfl | rfl | rfl | rfl | rfl | rfl <;> rfl
  rw [e]
  exact StC.cell _ z4 (by simp [bitsL]; omega) rfl rfl
end
end Go.Proofs.Ytjpgnjaobfbojaa
namespace Go.Proofs.Ytjpgnjaobfbojaa
open Go.Sx
abbrev lvS (n c : Nat) : Value := .slice (some ⟨1, 0, none⟩) n c
def thirdP (s : St) : Int := if s.hk = 2 then (if s.sh s.hn.toNat = true then -1 else lowest (upd s.sh s.hn.toNat false)) else lowest (upd s.sh s.hn.toNat false)
def supplyP (s : St) : Int := if s.x = -1 then (if s.owner = -1 then thirdP s else if s.owner = s.hn then thirdP s else if s.sh s.owner.toNat = true then s.owner else thirdP s) else s.x
theorem supplyP_ctr (s : St) (n c : Nat) (hr : 0 ≤ s.hn ∧ s.hn < 8) (ho : -1 ≤ s.owner ∧ s.owner < 8) : Ctr Try.prog 95 lockP (bookH 73 s (lvS n c)) (.tuple #[]) (bookH 73 { s with su := supplyP s } (lvS n c)) := by
  · by_cases h0 : ((s.x) : Int) = (-1)
    · by_cases h1 : ((s.owner) : Int) = (-1)
      · by_cases h2 : ((s.hk) : Int) = (2)
        · by_cases h3 : s.sh s.hn.toNat = true
          · simp only [supplyP, thirdP, if_pos h0, if_pos h1, if_pos h2, if_pos h3]
            exact Ctr.path mixed (denG s [.bool (s.sh s.hn.toNat)] rfl [(lvS n c), .pointer (some ⟨0, 2 + s.hn.toNat, none⟩)] rfl [] no_rows) ⟨[(.bin .neq 3 (sv 0) (.int .i64 (-1)), .bool false), (.bin .neq 3 (sv 1) (.int .i64 (-1)), .bool false), (.bin .eql 32 (sv 28) (.int .i64 2), .bool true), (.ixa 70 (.pointer (some ⟨0, 2, none⟩)) (sv 27), .chan (some 1)), (.test .f64 40, .bool true)], [], [([4, 1000000], { args := [.chan (some 1)], c := 2, hids := [(1, 1)], foots := [⟨0, 0, false, .row 73 (.lst (syms [])) false, .row 73 (.lst (syms [])) false⟩], news := [], res := sv 40 })]⟩ [] ⟨asB (c := (((s.x) : Int) != (-1))) (by kernel_rfl) (bne_eq_false_iff_eq.2 (by omega)), asB (c := (((s.owner) : Int) != (-1))) (by kernel_rfl) (bne_eq_false_iff_eq.2 (by omega)), asB (c := (((s.hk) : Int) == (2))) (by kernel_rfl) (beq_iff_eq.2 (by omega)), asIxArr u70 z4 rfl (by omega) (by omega) rfl (by omega), asT (congrArg Value.bool h3), trivial⟩ trivial ⟨LdOk.mk (ld_sh ⟨(s.x), (s.owner), s.sh, s.pa, s.ops, (s.hn), (s.hk), (s.wt), s.go, (s.su), (s.op), s.line⟩ (lvS n c) 73 (q := s.hn.toNat) (by omega)) rfl (by kernel_rfl), trivial⟩ trivial
              (N := 200) (c0 := 2) (A0 := bookL 73 []) (args0 := lockP) (τ := [(0, 0), (1, 1)]) (ros := []) (by kernel_rfl) (by kernel_rfl) (by kernel_rfl)
          · simp only [supplyP, thirdP, if_pos h0, if_pos h1, if_pos h2, if_neg h3]
            exact Ctr.path mixed (denG s [.bool (s.sh s.hn.toNat), .bool (upd s.sh s.hn.toNat false 0), .bool (upd s.sh s.hn.toNat false 1), .bool (upd s.sh s.hn.toNat false 2), .bool (upd s.sh s.hn.toNat false 3), .bool (upd s.sh s.hn.toNat false 4), .bool (upd s.sh s.hn.toNat false 5), .bool (upd s.sh s.hn.toNat false 6), .bool (upd s.sh s.hn.toNat false 7), .int .i64 (lowest ((upd s.sh s.hn.toNat false)))] rfl [(lvS n c), .pointer (some ⟨0, 2 + s.hn.toNat, none⟩), .pointer (some ⟨2, s.hn.toNat, none⟩)] rfl [] no_rows) ⟨[(.bin .neq 3 (sv 0) (.int .i64 (-1)), .bool false), (.bin .neq 3 (sv 1) (.int .i64 (-1)), .bool false), (.bin .eql 32 (sv 28) (.int .i64 2), .bool true), (.ixa 70 (.pointer (some ⟨0, 2, none⟩)) (sv 27), .chan (some 1)), (.test .f64 40, .bool false), (.ixa 70 (.pointer (some ⟨2, 0, none⟩)) (sv 27), .chan (some 2))], [], [([4, 1000000], { args := [.chan (some 1)], c := 2, hids := [(1, 1)], foots := [⟨0, 0, false, .row 73 (.lst (syms [])) false, .row 73 (.lst (syms [])) false⟩], news := [], res := sv 40 }), ([4, 1000001], { args := [.chan (some 2), .bool false], c := 4, hids := [], foots := [⟨2, 0, false, .row 70 (.lst [sv 2, sv 3, sv 4, sv 5, sv 6, sv 7, sv 8, sv 9]) false, .row 70 (.lst [sv 41, sv 42, sv 43, sv 44, sv 45, sv 46, sv 47, sv 48]) false⟩], news := [], res := .bool false })]⟩ [(107, [{ args := [.agg #[sv 41, sv 42, sv 43, sv 44, sv 45, sv 46, sv 47, sv 48]], c := 4, foots := [], news := [], res := sv 49 }])] ⟨asB (c := (((s.x) : Int) != (-1))) (by kernel_rfl) (bne_eq_false_iff_eq.2 (by omega)), asB (c := (((s.owner) : Int) != (-1))) (by kernel_rfl) (bne_eq_false_iff_eq.2 (by omega)), asB (c := (((s.hk) : Int) == (2))) (by kernel_rfl) (beq_iff_eq.2 (by omega)), asIxArr u70 z4 rfl (by omega) (by omega) rfl (by omega), asT (congrArg Value.bool (Bool.eq_false_iff.2 h3)), asIxArr u70 z4 rfl (by omega) (by omega) rfl (by omega), trivial⟩ trivial ⟨LdOk.mk (ld_sh ⟨(s.x), (s.owner), s.sh, s.pa, s.ops, (s.hn), (s.hk), (s.wt), s.go, (s.su), (s.op), s.line⟩ (lvS n c) 73 (q := s.hn.toNat) (by omega)) rfl (by kernel_rfl), StOk.mk (st_set 70 (q := s.hn.toNat) (by omega) s.sh false) rfl (by kernel_rfl), trivial⟩ ⟨one_entry (entOK (lowest_ctr ((upd s.sh s.hn.toNat false))) rfl (by kernel_rfl)), trivial⟩
              (N := 200) (c0 := 2) (A0 := bookL 73 []) (args0 := lockP) (τ := [(0, 0), (1, 1)]) (ros := []) (by kernel_rfl) (by kernel_rfl) (by kernel_rfl)
        · simp only [supplyP, thirdP, if_pos h0, if_pos h1, if_neg h2]
          exact Ctr.path mixed (denG s [.bool (upd s.sh s.hn.toNat false 0), .bool (upd s.sh s.hn.toNat false 1), .bool (upd s.sh s.hn.toNat false 2), .bool (upd s.sh s.hn.toNat false 3), .bool (upd s.sh s.hn.toNat false 4), .bool (upd s.sh s.hn.toNat false 5), .bool (upd s.sh s.hn.toNat false 6), .bool (upd s.sh s.hn.toNat false 7), .int .i64 (lowest ((upd s.sh s.hn.toNat false)))] rfl [(lvS n c), .pointer (some ⟨2, s.hn.toNat, none⟩)] rfl [] no_rows) ⟨[(.bin .neq 3 (sv 0) (.int .i64 (-1)), .bool false), (.bin .neq 3 (sv 1) (.int .i64 (-1)), .bool false), (.bin .eql 32 (sv 28) (.int .i64 2), .bool false), (.ixa 70 (.pointer (some ⟨2, 0, none⟩)) (sv 27), .chan (some 1))], [], [([4, 1000001], { args := [.chan (some 1), .bool false], c := 4, hids := [], foots := [⟨2, 0, false, .row 70 (.lst [sv 2, sv 3, sv 4, sv 5, sv 6, sv 7, sv 8, sv 9]) false, .row 70 (.lst [sv 40, sv 41, sv 42, sv 43, sv 44, sv 45, sv 46, sv 47]) false⟩], news := [], res := .bool false })]⟩ [(107, [{ args := [.agg #[sv 40, sv 41, sv 42, sv 43, sv 44, sv 45, sv 46, sv 47]], c := 4, foots := [], news := [], res := sv 48 }])] ⟨asB (c := (((s.x) : Int) != (-1))) (by kernel_rfl) (bne_eq_false_iff_eq.2 (by omega)), asB (c := (((s.owner) : Int) != (-1))) (by kernel_rfl) (bne_eq_false_iff_eq.2 (by omega)), asB (c := (((s.hk) : Int) == (2))) (by kernel_rfl) (beq_eq_false_iff_ne.2 (by omega)), asIxArr u70 z4 rfl (by omega) (by omega) rfl (by omega), trivial⟩ trivial ⟨StOk.mk (st_set 70 (q := s.hn.toNat) (by omega) s.sh false) rfl (by kernel_rfl), trivial⟩ ⟨one_entry (entOK (lowest_ctr ((upd s.sh s.hn.toNat false))) rfl (by kernel_rfl)), trivial⟩
            (N := 200) (c0 := 2) (A0 := bookL 73 []) (args0 := lockP) (τ := [(0, 0), (1, 1)]) (ros := []) (by kernel_rfl) (by kernel_rfl) (by kernel_rfl)
      · by_cases h4 : ((s.owner) : Int) = (s.hn)
        · by_cases h5 : ((s.hk) : Int) = (2)
          · by_cases h6 : s.sh s.hn.toNat = true
            · simp only [supplyP, thirdP, if_pos h0, if_neg h1, if_pos h4, if_pos h5, if_pos h6]
              exact Ctr.path mixed (denG s [.bool (s.sh s.hn.toNat)] rfl [(lvS n c), .pointer (some ⟨0, 2 + s.hn.toNat, none⟩)] rfl [] no_rows) ⟨[(.bin .neq 3 (sv 0) (.int .i64 (-1)), .bool false), (.bin .neq 3 (sv 1) (.int .i64 (-1)), .bool true), (.bin .neq 3 (sv 1) (sv 27), .bool false), (.bin .eql 32 (sv 28) (.int .i64 2), .bool true), (.ixa 70 (.pointer (some ⟨0, 2, none⟩)) (sv 27), .chan (some 1)), (.test .f64 40, .bool true)], [], [([4, 1000000], { args := [.chan (some 1)], c := 2, hids := [(1, 1)], foots := [⟨0, 0, false, .row 73 (.lst (syms [])) false, .row 73 (.lst (syms [])) false⟩], news := [], res := sv 40 })]⟩ [] ⟨asB (c := (((s.x) : Int) != (-1))) (by kernel_rfl) (bne_eq_false_iff_eq.2 (by omega)), asB (c := (((s.owner) : Int) != (-1))) (by kernel_rfl) (bne_iff_ne.2 (by omega)), asB (c := (((s.owner) : Int) != (s.hn))) (by kernel_rfl) (bne_eq_false_iff_eq.2 (by omega)), asB (c := (((s.hk) : Int) == (2))) (by kernel_rfl) (beq_iff_eq.2 (by omega)), asIxArr u70 z4 rfl (by omega) (by omega) rfl (by omega), asT (congrArg Value.bool h6), trivial⟩ trivial ⟨LdOk.mk (ld_sh ⟨(s.x), (s.owner), s.sh, s.pa, s.ops, (s.hn), (s.hk), (s.wt), s.go, (s.su), (s.op), s.line⟩ (lvS n c) 73 (q := s.hn.toNat) (by omega)) rfl (by kernel_rfl), trivial⟩ trivial
                (N := 200) (c0 := 2) (A0 := bookL 73 []) (args0 := lockP) (τ := [(0, 0), (1, 1)]) (ros := []) (by kernel_rfl) (by kernel_rfl) (by kernel_rfl)
            · simp only [supplyP, thirdP, if_pos h0, if_neg h1, if_pos h4, if_pos h5, if_neg h6]
              exact Ctr.path mixed (denG s [.bool (s.sh s.hn.toNat), .bool (upd s.sh s.hn.toNat false 0), .bool (upd s.sh s.hn.toNat false 1), .bool (upd s.sh s.hn.toNat false 2), .bool (upd s.sh s.hn.toNat false 3), .bool (upd s.sh s.hn.toNat false 4), .bool (upd s.sh s.hn.toNat false 5), .bool (upd s.sh s.hn.toNat false 6), .bool (upd s.sh s.hn.toNat false 7), .int .i64 (lowest ((upd s.sh s.hn.toNat false)))] rfl [(lvS n c), .pointer (some ⟨0, 2 + s.hn.toNat, none⟩), .pointer (some ⟨2, s.hn.toNat, none⟩)] rfl [] no_rows) ⟨[(.bin .neq 3 (sv 0) (.int .i64 (-1)), .bool false), (.bin .neq 3 (sv 1) (.int .i64 (-1)), .bool true), (.bin .neq 3 (sv 1) (sv 27), .bool false), (.bin .eql 32 (sv 28) (.int .i64 2), .bool true), (.ixa 70 (.pointer (some ⟨0, 2, none⟩)) (sv 27), .chan (some 1)), (.test .f64 40, .bool false), (.ixa 70 (.pointer (some ⟨2, 0, none⟩)) (sv 27), .chan (some 2))], [], [([4, 1000000], { args := [.chan (some 1)], c := 2, hids := [(1, 1)], foots := [⟨0, 0, false, .row 73 (.lst (syms [])) false, .row 73 (.lst (syms [])) false⟩], news := [], res := sv 40 }), ([4, 1000001], { args := [.chan (some 2), .bool false], c := 4, hids := [], foots := [⟨2, 0, false, .row 70 (.lst [sv 2, sv 3, sv 4, sv 5, sv 6, sv 7, sv 8, sv 9]) false, .row 70 (.lst [sv 41, sv 42, sv 43, sv 44, sv 45, sv 46, sv 47, sv 48]) false⟩], news := [], res := .bool false })]⟩ [(107, [{ args := [.agg #[sv 41, sv 42, sv 43, sv 44, sv 45, sv 46, sv 47, sv 48]], c := 4, foots := [], news := [], res := sv 49 }])] ⟨asB (c := (((s.x) : Int) != (-1))) (by kernel_rfl) (bne_eq_false_iff_eq.2 (by omega)), asB (c := (((s.owner) : Int) != (-1))) (by kernel_rfl) (bne_iff_ne.2 (by omega)), asB (c := (((s.owner) : Int) != (s.hn))) (by kernel_rfl) (bne_eq_false_iff_eq.2 (by omega)), asB (c := (((s.hk) : Int) == (2))) (by kernel_rfl) (beq_iff_eq.2 (by omega)), asIxArr u70 z4 rfl (by omega) (by omega) rfl (by omega), asT (congrArg Value.bool (Bool.eq_false_iff.2 h6)), asIxArr u70 z4 rfl (by omega) (by omega) rfl (by omega), trivial⟩ trivial ⟨LdOk.mk (ld_sh ⟨(s.x), (s.owner), s.sh, s.pa, s.ops, (s.hn), (s.hk), (s.wt), s.go, (s.su), (s.op), s.line⟩ (lvS n c) 73 (q := s.hn.toNat) (by omega)) rfl (by kernel_rfl), StOk.mk (st_set 70 (q := s.hn.toNat) (by omega) s.sh false) rfl (by kernel_rfl), trivial⟩ ⟨one_entry (entOK (lowest_ctr ((upd s.sh s.hn.toNat false))) rfl (by kernel_rfl)), trivial⟩
                (N := 200) (c0 := 2) (A0 := bookL 73 []) (args0 := lockP) (τ := [(0, 0), (1, 1)]) (ros := []) (by kernel_rfl) (by kernel_rfl) (by kernel_rfl)
          · simp only [supplyP, thirdP, if_pos h0, if_neg h1, if_pos h4, if_neg h5]
            exact Ctr.path mixed (denG s [.bool (upd s.sh s.hn.toNat false 0), .bool (upd s.sh s.hn.toNat false 1), .bool (upd s.sh s.hn.toNat false 2), .bool (upd s.sh s.hn.toNat false 3), .bool (upd s.sh s.hn.toNat false 4), .bool (upd s.sh s.hn.toNat false 5), .bool (upd s.sh s.hn.toNat false 6), .bool (upd s.sh s.hn.toNat false 7), .int .i64 (lowest ((upd s.sh s.hn.toNat false)))] rfl [(lvS n c), .pointer (some ⟨2, s.hn.toNat, none⟩)] rfl [] no_rows) ⟨[(.bin .neq 3 (sv 0) (.int .i64 (-1)), .bool false), (.bin .neq 3 (sv 1) (.int .i64 (-1)), .bool true), (.bin .neq 3 (sv 1) (sv 27), .bool false), (.bin .eql 32 (sv 28) (.int .i64 2), .bool false), (.ixa 70 (.pointer (some ⟨2, 0, none⟩)) (sv 27), .chan (some 1))], [], [([4, 1000001], { args := [.chan (some 1), .bool false], c := 4, hids := [], foots := [⟨2, 0, false, .row 70 (.lst [sv 2, sv 3, sv 4, sv 5, sv 6, sv 7, sv 8, sv 9]) false, .row 70 (.lst [sv 40, sv 41, sv 42, sv 43, sv 44, sv 45, sv 46, sv 47]) false⟩], news := [], res := .bool false })]⟩ [(107, [{ args := [.agg #[sv 40, sv 41, sv 42, sv 43, sv 44, sv 45, sv 46, sv 47]], c := 4, foots := [], news := [], res := sv 48 }])] ⟨asB (c := (((s.x) : Int) != (-1))) (by kernel_rfl) (bne_eq_false_iff_eq.2 (by omega)), asB (c := (((s.owner) : Int) != (-1))) (by kernel_rfl) (bne_iff_ne.2 (by omega)), asB (c := (((s.owner) : Int) != (s.hn))) (by kernel_rfl) (bne_eq_false_iff_eq.2 (by omega)), asB (c := (((s.hk) : Int) == (2))) (by kernel_rfl) (beq_eq_false_iff_ne.2 (by omega)), asIxArr u70 z4 rfl (by omega) (by omega) rfl (by omega), trivial⟩ trivial ⟨StOk.mk (st_set 70 (q := s.hn.toNat) (by omega) s.sh false) rfl (by kernel_rfl), trivial⟩ ⟨one_entry (entOK (lowest_ctr ((upd s.sh s.hn.toNat false))) rfl (by kernel_rfl)), trivial⟩
              (N := 200) (c0 := 2) (A0 := bookL 73 []) (args0 := lockP) (τ := [(0, 0), (1, 1)]) (ros := []) (by kernel_rfl) (by kernel_rfl) (by kernel_rfl)
        · by_cases h7 : s.sh s.owner.toNat = true
          · simp only [supplyP, thirdP, if_pos h0, if_neg h1, if_neg h4, if_pos h7]
            exact Ctr.path mixed (denG s [.bool (s.sh s.owner.toNat)] rfl [(lvS n c), .pointer (some ⟨0, 2 + s.owner.toNat, none⟩)] rfl [] no_rows) ⟨[(.bin .neq 3 (sv 0) (.int .i64 (-1)), .bool false), (.bin .neq 3 (sv 1) (.int .i64 (-1)), .bool true), (.bin .neq 3 (sv 1) (sv 27), .bool true), (.ixa 70 (.pointer (some ⟨0, 2, none⟩)) (sv 1), .chan (some 1)), (.test .f64 40, .bool true)], [], [([4, 1000000], { args := [.chan (some 1)], c := 2, hids := [(1, 1)], foots := [⟨0, 0, false, .row 73 (.lst (syms [])) false, .row 73 (.lst (syms [])) false⟩], news := [], res := sv 40 })]⟩ [] ⟨asB (c := (((s.x) : Int) != (-1))) (by kernel_rfl) (bne_eq_false_iff_eq.2 (by omega)), asB (c := (((s.owner) : Int) != (-1))) (by kernel_rfl) (bne_iff_ne.2 (by omega)), asB (c := (((s.owner) : Int) != (s.hn))) (by kernel_rfl) (bne_iff_ne.2 (by omega)), asIxArr u70 z4 rfl (by omega) (by omega) rfl (by omega), asT (congrArg Value.bool h7), trivial⟩ trivial ⟨LdOk.mk (ld_sh ⟨(s.x), (s.owner), s.sh, s.pa, s.ops, (s.hn), (s.hk), (s.wt), s.go, (s.su), (s.op), s.line⟩ (lvS n c) 73 (q := s.owner.toNat) (by omega)) rfl (by kernel_rfl), trivial⟩ trivial
              (N := 200) (c0 := 2) (A0 := bookL 73 []) (args0 := lockP) (τ := [(0, 0), (1, 1)]) (ros := []) (by kernel_rfl) (by kernel_rfl) (by kernel_rfl)
          · by_cases h8 : ((s.hk) : Int) = (2)
            · by_cases h9 : s.sh s.hn.toNat = true
              · simp only [supplyP, thirdP, if_pos h0, if_neg h1, if_neg h4, if_neg h7, if_pos h8, if_pos h9]
                exact Ctr.path mixed (denG s [.bool (s.sh s.owner.toNat), .bool (s.sh s.hn.toNat)] rfl [(lvS n c), .pointer (some ⟨0, 2 + s.owner.toNat, none⟩), .pointer (some ⟨0, 2 + s.hn.toNat, none⟩)] rfl [] no_rows) ⟨[(.bin .neq 3 (sv 0) (.int .i64 (-1)), .bool false), (.bin .neq 3 (sv 1) (.int .i64 (-1)), .bool true), (.bin .neq 3 (sv 1) (sv 27), .bool true), (.ixa 70 (.pointer (some ⟨0, 2, none⟩)) (sv 1), .chan (some 1)), (.test .f64 40, .bool false), (.bin .eql 32 (sv 28) (.int .i64 2), .bool true), (.ixa 70 (.pointer (some ⟨0, 2, none⟩)) (sv 27), .chan (some 2)), (.test .f64 41, .bool true)], [], [([4, 1000000], { args := [.chan (some 1)], c := 2, hids := [(1, 1)], foots := [⟨0, 0, false, .row 73 (.lst (syms [])) false, .row 73 (.lst (syms [])) false⟩], news := [], res := sv 40 }), ([4, 1000000], { args := [.chan (some 2)], c := 2, hids := [(1, 1)], foots := [⟨0, 0, false, .row 73 (.lst (syms [])) false, .row 73 (.lst (syms [])) false⟩], news := [], res := sv 41 })]⟩ [] ⟨asB (c := (((s.x) : Int) != (-1))) (by kernel_rfl) (bne_eq_false_iff_eq.2 (by omega)), asB (c := (((s.owner) : Int) != (-1))) (by kernel_rfl) (bne_iff_ne.2 (by omega)), asB (c := (((s.owner) : Int) != (s.hn))) (by kernel_rfl) (bne_iff_ne.2 (by omega)), asIxArr u70 z4 rfl (by omega) (by omega) rfl (by omega), asT (congrArg Value.bool (Bool.eq_false_iff.2 h7)), asB (c := (((s.hk) : Int) == (2))) (by kernel_rfl) (beq_iff_eq.2 (by omega)), asIxArr u70 z4 rfl (by omega) (by omega) rfl (by omega), asT (congrArg Value.bool h9), trivial⟩ trivial ⟨LdOk.mk (ld_sh ⟨(s.x), (s.owner), s.sh, s.pa, s.ops, (s.hn), (s.hk), (s.wt), s.go, (s.su), (s.op), s.line⟩ (lvS n c) 73 (q := s.owner.toNat) (by omega)) rfl (by kernel_rfl), LdOk.mk (ld_sh ⟨(s.x), (s.owner), s.sh, s.pa, s.ops, (s.hn), (s.hk), (s.wt), s.go, (s.su), (s.op), s.line⟩ (lvS n c) 73 (q := s.hn.toNat) (by omega)) rfl (by kernel_rfl), trivial⟩ trivial
                  (N := 200) (c0 := 2) (A0 := bookL 73 []) (args0 := lockP) (τ := [(0, 0), (1, 1)]) (ros := []) (by kernel_rfl) (by kernel_rfl) (by kernel_rfl)
              · simp only [supplyP, thirdP, if_pos h0, if_neg h1, if_neg h4, if_neg h7, if_pos h8, if_neg h9]
                exact Ctr.path mixed (denG s [.bool (s.sh s.owner.toNat), .bool (s.sh s.hn.toNat), .bool (upd s.sh s.hn.toNat false 0), .bool (upd s.sh s.hn.toNat false 1), .bool (upd s.sh s.hn.toNat false 2), .bool (upd s.sh s.hn.toNat false 3), .bool (upd s.sh s.hn.toNat false 4), .bool (upd s.sh s.hn.toNat false 5), .bool (upd s.sh s.hn.toNat false 6), .bool (upd s.sh s.hn.toNat false 7), .int .i64 (lowest ((upd s.sh s.hn.toNat false)))] rfl [(lvS n c), .pointer (some ⟨0, 2 + s.owner.toNat, none⟩), .pointer (some ⟨0, 2 + s.hn.toNat, none⟩), .pointer (some ⟨2, s.hn.toNat, none⟩)] rfl [] no_rows) ⟨[(.bin .neq 3 (sv 0) (.int .i64 (-1)), .bool false), (.bin .neq 3 (sv 1) (.int .i64 (-1)), .bool true), (.bin .neq 3 (sv 1) (sv 27), .bool true), (.ixa 70 (.pointer (some ⟨0, 2, none⟩)) (sv 1), .chan (some 1)), (.test .f64 40, .bool false), (.bin .eql 32 (sv 28) (.int .i64 2), .bool true), (.ixa 70 (.pointer (some ⟨0, 2, none⟩)) (sv 27), .chan (some 2)), (.test .f64 41, .bool false), (.ixa 70 (.pointer (some ⟨2, 0, none⟩)) (sv 27), .chan (some 3))], [], [([4, 1000000], { args := [.chan (some 1)], c := 2, hids := [(1, 1)], foots := [⟨0, 0, false, .row 73 (.lst (syms [])) false, .row 73 (.lst (syms [])) false⟩], news := [], res := sv 40 }), ([4, 1000000], { args := [.chan (some 2)], c := 2, hids := [(1, 1)], foots := [⟨0, 0, false, .row 73 (.lst (syms [])) false, .row 73 (.lst (syms [])) false⟩], news := [], res := sv 41 }), ([4, 1000001], { args := [.chan (some 3), .bool false], c := 4, hids := [], foots := [⟨2, 0, false, .row 70 (.lst [sv 2, sv 3, sv 4, sv 5, sv 6, sv 7, sv 8, sv 9]) false, .row 70 (.lst [sv 42, sv 43, sv 44, sv 45, sv 46, sv 47, sv 48, sv 49]) false⟩], news := [], res := .bool false })]⟩ [(107, [{ args := [.agg #[sv 42, sv 43, sv 44, sv 45, sv 46, sv 47, sv 48, sv 49]], c := 4, foots := [], news := [], res := sv 50 }])] ⟨asB (c := (((s.x) : Int) != (-1))) (by kernel_rfl) (bne_eq_false_iff_eq.2 (by omega)), asB (c := (((s.owner) : Int) != (-1))) (by kernel_rfl) (bne_iff_ne.2 (by omega)), asB (c := (((s.owner) : Int) != (s.hn))) (by kernel_rfl) (bne_iff_ne.2 (by omega)), asIxArr u70 z4 rfl (by omega) (by omega) rfl (by omega), asT (congrArg Value.bool (Bool.eq_false_iff.2 h7)), asB (c := (((s.hk) : Int) == (2))) (by kernel_rfl) (beq_iff_eq.2 (by omega)), asIxArr u70 z4 rfl (by omega) (by omega) rfl (by omega), asT (congrArg Value.bool (Bool.eq_false_iff.2 h9)), asIxArr u70 z4 rfl (by omega) (by omega) rfl (by omega), trivial⟩ trivial ⟨LdOk.mk (ld_sh ⟨(s.x), (s.owner), s.sh, s.pa, s.ops, (s.hn), (s.hk), (s.wt), s.go, (s.su), (s.op), s.line⟩ (lvS n c) 73 (q := s.owner.toNat) (by omega)) rfl (by kernel_rfl), LdOk.mk (ld_sh ⟨(s.x), (s.owner), s.sh, s.pa, s.ops, (s.hn), (s.hk), (s.wt), s.go, (s.su), (s.op), s.line⟩ (lvS n c) 73 (q := s.hn.toNat) (by omega)) rfl (by kernel_rfl), StOk.mk (st_set 70 (q := s.hn.toNat) (by omega) s.sh false) rfl (by kernel_rfl), trivial⟩ ⟨one_entry (entOK (lowest_ctr ((upd s.sh s.hn.toNat false))) rfl (by kernel_rfl)), trivial⟩
                  (N := 200) (c0 := 2) (A0 := bookL 73 []) (args0 := lockP) (τ := [(0, 0), (1, 1)]) (ros := []) (by kernel_rfl) (by kernel_rfl) (by kernel_rfl)
            · simp only [supplyP, thirdP, if_pos h0, if_neg h1, if_neg h4, if_neg h7, if_neg h8]
              exact Ctr.path mixed (denG s [.bool (s.sh s.owner.toNat), .bool (upd s.sh s.hn.toNat false 0), .bool (upd s.sh s.hn.toNat false 1), .bool (upd s.sh s.hn.toNat false 2), .bool (upd s.sh s.hn.toNat false 3), .bool (upd s.sh s.hn.toNat false 4), .bool (upd s.sh s.hn.toNat false 5), .bool (upd s.sh s.hn.toNat false 6), .bool (upd s.sh s.hn.toNat false 7), .int .i64 (lowest ((upd s.sh s.hn.toNat false)))] rfl [(lvS n c), .pointer (some ⟨0, 2 + s.owner.toNat, none⟩), .pointer (some ⟨2, s.hn.toNat, none⟩)] rfl [] no_rows) ⟨[(.bin .neq 3 (sv 0) (.int .i64 (-1)), .bool false), (.bin .neq 3 (sv 1) (.int .i64 (-1)), .bool true), (.bin .neq 3 (sv 1) (sv 27), .bool true), (.ixa 70 (.pointer (some ⟨0, 2, none⟩)) (sv 1), .chan (some 1)), (.test .f64 40, .bool false), (.bin .eql 32 (sv 28) (.int .i64 2), .bool false), (.ixa 70 (.pointer (some ⟨2, 0, none⟩)) (sv 27), .chan (some 2))], [], [([4, 1000000], { args := [.chan (some 1)], c := 2, hids := [(1, 1)], foots := [⟨0, 0, false, .row 73 (.lst (syms [])) false, .row 73 (.lst (syms [])) false⟩], news := [], res := sv 40 }), ([4, 1000001], { args := [.chan (some 2), .bool false], c := 4, hids := [], foots := [⟨2, 0, false, .row 70 (.lst [sv 2, sv 3, sv 4, sv 5, sv 6, sv 7, sv 8, sv 9]) false, .row 70 (.lst [sv 41, sv 42, sv 43, sv 44, sv 45, sv 46, sv 47, sv 48]) false⟩], news := [], res := .bool false })]⟩ [(107, [{ args := [.agg #[sv 41, sv 42, sv 43, sv 44, sv 45, sv 46, sv 47, sv 48]], c := 4, foots := [], news := [], res := sv 49 }])] ⟨asB (c := (((s.x) : Int) != (-1))) (by kernel_rfl) (bne_eq_false_iff_eq.2 (by omega)), asB (c := (((s.owner) : Int) != (-1))) (by kernel_rfl) (bne_iff_ne.2 (by omega)), asB (c := (((s.owner) : Int) != (s.hn))) (by kernel_rfl) (bne_iff_ne.2 (by omega)), asIxArr u70 z4 rfl (by omega) (by omega) rfl (by omega), asT (congrArg Value.bool (Bool.eq_false_iff.2 h7)), asB (c := (((s.hk) : Int) == (2))) (by kernel_rfl) (beq_eq_false_iff_ne.2 (by omega)), asIxArr u70 z4 rfl (by omega) (by omega) rfl (by omega), trivial⟩ trivial ⟨LdOk.mk (ld_sh ⟨(s.x), (s.owner), s.sh, s.pa, s.ops, (s.hn), (s.hk), (s.wt), s.go, (s.su), (s.op), s.line⟩ (lvS n c) 73 (q := s.owner.toNat) (by omega)) rfl (by kernel_rfl), StOk.mk (st_set 70 (q := s.hn.toNat) (by omega) s.sh false) rfl (by kernel_rfl), trivial⟩ ⟨one_entry (entOK (lowest_ctr ((upd s.sh s.hn.toNat false))) rfl (by kernel_rfl)), trivial⟩
                (N := 200) (c0 := 2) (A0 := bookL 73 []) (args0 := lockP) (τ := [(0, 0), (1, 1)]) (ros := []) (by kernel_rfl) (by kernel_rfl) (by kernel_rfl)
    · simp only [supplyP, thirdP, if_neg h0]
      exact Ctr.path mixed (denG s [] rfl [(lvS n c)] rfl [] no_rows) ⟨[(.bin .neq 3 (sv 0) (.int .i64 (-1)), .bool true)], [], []⟩ [] ⟨asB (c := (((s.x) : Int) != (-1))) (by kernel_rfl) (bne_iff_ne.2 (by omega)), trivial⟩ trivial trivial trivial
        (N := 200) (c0 := 2) (A0 := bookL 73 []) (args0 := lockP) (τ := [(0, 0), (1, 1)]) (ros := []) (by kernel_rfl) (by kernel_rfl) (by kernel_rfl)
end Go.Proofs.Ytjpgnjaobfbojaa
namespace Go.Proofs.Ytjpgnjaobfbojaa
open Go.Sx
def encL : List (Int × Int) → List Value
  | [] => []
  | w :: l => .int .i64 w.1 :: .int .i64 w.2 :: encL l
theorem encL_plain : ∀ l : List (Int × Int), (encL l).all plainS = true
  | [] => rfl
  | _ :: l => encL_plain l
theorem encL_len : ∀ l : List (Int × Int), (encL l).length = l.length * 2
  | [] => rfl
  | _ :: l => by simp only [encL, List.length_cons, encL_len l]; omega
def capL (line : List (Int × Int)) : Nat := if line = [] then 0 else INF
def lineV (id : Nat) (line : List (Int × Int)) : Value := .slice (some ⟨id, 0, none⟩) line.length (capL line)
def lockA (id : Nat) (s : St) : HL := [(0, .row 73 (.lst (cells s (lineV id s.line))) false), (id, .row 34 (.lst (encL s.line)) false)]
def lockL (pin : List (Nat × Value)) : HL := [(0, .row 73 (.lst (syms pin)) false), (1, .orow 34 0 false)]
def ordV (id cap : Nat) : List Ord → Value
  | [] => .slice none 0 0
  | x :: l => .slice (some ⟨id, 0, none⟩) (x :: l).length cap
def outH : List Ord → HL
  | [] => []
  | x :: l => [(2, .row 45 (.lst (encOrds (x :: l))) false)]
def lockB (t : St) (o : List Ord) : HL := lockA 3 t ++ outH o
def lockD (t : St) (o : List Ord) : HL := (0, .row 73 (.lst (cells t (lineV 3 t.line))) false) :: (1, .dead) :: (3, .row 34 (.lst (encL t.line)) false) :: outH o
theorem lockD_lk (t : St) (o : List Ord) (i : Nat) : lkL (lockD t o) i = lkL (lockB t o ++ [(1, .dead)]) i := by
  match i with
  | 0 => cases o <;> rfl
  | 1 => cases o <;> rfl
  | 2 => cases o <;> rfl
  | 3 => cases o <;> rfl
  | i + 4 => cases o <;> rfl
def CapOK (o : List Ord) (cap : Nat) : Prop := cap = INF ∨ cap = o.length
def MC (g : FuncId) (args : List Value) (s t : St) (o : List Ord) : Prop := ∃ cap, CapOK o cap ∧ Ctr Try.prog g (lockP ++ args) (lockA 1 s) (ordV 2 cap o) (lockD t o)
theorem MC.mk {g : FuncId} {args : List Value} {s t : St} {o : List Ord} {cap : Nat} (h : Ctr Try.prog g (lockP ++ args) (lockA 1 s) (ordV 2 cap o) (lockB t o)) (hc : CapOK o cap := by first | exact .inl rfl | exact .inr rfl | assumption) : MC g args s t o := ⟨cap, hc, (h.addDead 1 (by cases o <;> rfl)).reB (lockD_lk t o)⟩
theorem rows1 {a : List Value} (h : a.all plainS = true) : ∀ r ∈ [a], r.all plainS = true := one_row h
theorem rows2 {a b : List Value} (h : a.all plainS = true) (h2 : b.all plainS = true) : ∀ r ∈ [a, b], r.all plainS = true := by
  intro r hr
  rcases List.mem_cons.1 hr with rfl | hr
  · exact h
  · exact rows1 h2 r hr
structure Inv (s : St) : Prop where
  x : -1 ≤ s.x ∧ s.x < 8
  owner : -1 ≤ s.owner ∧ s.owner < 8
  su : -1 ≤ s.su ∧ s.su < 8
  op : 0 ≤ s.op ∧ s.op + s.line.length < 4611686018427387904
  line : ∀ w ∈ s.line, 0 ≤ w.1 ∧ w.1 < 8 ∧ 1 ≤ w.2 ∧ w.2 ≤ 3
def Hand (s : St) : Prop := 0 ≤ s.hn ∧ s.hn < 8
def reset (s : St) : St := { s with hn := 0, hk := 0, wt := 0, su := -1, go := fun _ => false }
def onM (s : St) : St × List Ord := ({ s with wt := 2 }, [if s.su = -1 then ⟨1, s.hn, s.op, 2, 0, 0⟩ else ⟨3, s.su, s.op, 0, s.hn, 0⟩])
def goneM (s : St) : Nat → Bool := if s.su = -1 then upd s.sh s.hn.toNat false else upd (upd s.sh s.hn.toNat false) s.su.toNat false
def dropsM (op : Int) (l : List Int) : List Ord := l.map fun n => ⟨4, n, op, 0, 0, 0⟩
def beginS (nx : St → St × List Ord) (s : St) : St × List Ord :=
  if s.x = s.hn then nx (reset s) else if s.sh s.hn.toNat = true then nx (reset s) else
    ({ s with su := supplyP s, wt := 2 }, [if supplyP s = -1 then ⟨1, s.hn, s.op, 1, 0, 0⟩ else ⟨2, supplyP s, s.op, 0, s.hn, 0⟩])
def beginE (nx : St → St × List Ord) (s : St) : St × List Ord :=
  if s.x = s.hn then nx (reset s) else
    let s1 := { s with su := supplyP s }
    let s2 := { s1 with go := goneM s1 }
    if listTo s2.go 8 = [] then onM s2 else ({ s2 with wt := 1 }, dropsM s.op (listTo s2.go 8))
def needM (nx : St → St × List Ord) (s : St) : St × List Ord :=
  ((nx (reset { s with pa := upd s.pa s.hn.toNat false })).1, ⟨6, s.hn, 0, 0, 0, 2147483647⟩ :: (nx (reset { s with pa := upd s.pa s.hn.toNat false })).2)
def beginC (nx : St → St × List Ord) (s : St) : St × List Ord :=
  if s.owner = -1 then needM nx { s with pa := upd s.pa s.hn.toNat true } else ({ s with pa := upd s.pa s.hn.toNat true, wt := 3 }, [⟨5, s.owner, s.op, 0, 0, 0⟩])
def beginM (nx : St → St × List Ord) (s : St) : St × List Ord := if s.hk = 1 then beginS nx s else if s.hk = 2 then beginE nx s else beginC nx s
def nextM : Nat → St → St × List Ord
  | 0, s => (s, [])
  | n + 1, s => match s.line with
    | [] => (s, [])
    | w :: rest => beginM (nextM n) { s with hn := w.1, hk := w.2, line := rest, op := s.op + 1 }
end Go.Proofs.Ytjpgnjaobfbojaa
namespace Go.Proofs.Ytjpgnjaobfbojaa
open Go.Sx
def b8 (f : Nat → Bool) : List Value := [.bool (f 0), .bool (f 1), .bool (f 2), .bool (f 3), .bool (f 4), .bool (f 5), .bool (f 6), .bool (f 7)]
def n8 (f : Nat → Int) : List Value := [.int .i64 (f 0), .int .i64 (f 1), .int .i64 (f 2), .int .i64 (f 3), .int .i64 (f 4), .int .i64 (f 5), .int .i64 (f 6), .int .i64 (f 7)]
def tv (t : St) : List Value := cells t (.bool false)
def v8 (i : Nat) : Array Value := #[sv i, sv (i + 1), sv (i + 2), sv (i + 3), sv (i + 4), sv (i + 5), sv (i + 6), sv (i + 7)]
def p8 (a i : Nat) : List (Nat × Value) := [(a, sv i), (a + 1, sv (i + 1)), (a + 2, sv (i + 2)), (a + 3, sv (i + 3)), (a + 4, sv (i + 4)), (a + 5, sv (i + 5)), (a + 6, sv (i + 6)), (a + 7, sv (i + 7))]
def symsT (i0 k : Nat) : List Value := (List.range 40).map fun i => bif Nat.beq i 26 then .chan (some k) else .float .f64 (i0 + i)
def rowX (X : List (Nat × Value)) : AObj := .row 73 (.lst (syms X)) false
def eLd (r c : Nat) (X : List (Nat × Value)) (i : Nat) : Entry := { args := [.chan (some r)], c := c, hids := [(1, 1)], foots := [⟨0, 0, false, rowX X, rowX X⟩], news := [], res := sv i }
def eSt (r : Nat) (v : Value) (c : Nat) (X Y : List (Nat × Value)) : Entry := { args := [.chan (some r), v], c := c, hids := [(1, 1)], foots := [⟨0, 0, false, rowX X, rowX Y⟩], news := [], res := .bool false }
def eC0 (args : List Value) (c : Nat) (X : List (Nat × Value)) (i0 k li j n1 : Nat) : Entry := { args := args, c := c, foots := [⟨0, 0, false, rowX X, .row 73 (.lst (symsT i0 k)) false⟩, ⟨li, 1, false, .orow 34 j false, .dead⟩], news := [(3, .orow 34 n1 false)], res := .slice none 0 0 }
def eC1 (args : List Value) (c : Nat) (X : List (Nat × Value)) (i0 k li j n1 n2 : Nat) (res : Value) : Entry := { args := args, c := c, foots := [⟨0, 0, false, rowX X, .row 73 (.lst (symsT i0 k)) false⟩, ⟨li, 1, false, .orow 34 j false, .dead⟩], news := [(3, .orow 34 n1 false), (2, .orow 45 n2 false)], res := res }
abbrev iv (n : Int) : Value := .int .i64 n
abbrev pt (i o : Nat) : Value := .pointer (some ⟨i, o, none⟩)
section
variable {d : Den} {P : Program} {k : AK}
theorem tB {q : FloatKind} {i : Nat} {b c : Bool} (hb : b = c) (h : d.v i = .bool b := by kernel_rfl) : @AK.Ok d P (.test q i) (.bool c) := asT (h.trans (congrArg Value.bool hb))
theorem qT (c : Prop) [Decidable c] (hc : c := by omega) (h : @AKE d P k = some (.bool (decide c)) := by kernel_rfl) : @AK.Ok d P k (.bool true) := asB h (decide_eq_true hc)
theorem qF (c : Prop) [Decidable c] (hc : ¬ c := by omega) (h : @AKE d P k = some (.bool (decide c)) := by kernel_rfl) : @AK.Ok d P k (.bool false) := asB h (decide_eq_false hc)
theorem eT (a b : Int) (hc : a = b := by omega) (h : @AKE d P k = some (.bool (a == b)) := by kernel_rfl) : @AK.Ok d P k (.bool true) := asB h (beq_iff_eq.2 hc)
theorem eF (a b : Int) (hc : a ≠ b := by omega) (h : @AKE d P k = some (.bool (a == b)) := by kernel_rfl) : @AK.Ok d P k (.bool false) := asB h (beq_eq_false_iff_ne.2 hc)
theorem nT (a b : Int) (hc : a ≠ b := by omega) (h : @AKE d P k = some (.bool (a != b)) := by kernel_rfl) : @AK.Ok d P k (.bool true) := asB h (bne_iff_ne.2 hc)
theorem nF (a b : Int) (hc : a = b := by omega) (h : @AKE d P k = some (.bool (a != b)) := by kernel_rfl) : @AK.Ok d P k (.bool false) := asB h (bne_eq_false_iff_eq.2 hc)
end
theorem ab {p q : Prop} (h : p) (n : ¬ p := by first | omega | grind) : q := absurd h n
theorem oe {d : Den} {g : FuncId} {e : Entry} {args : List Value} {A : HL} {res : Value} {B : HL} (h : Ctr Try.prog g args A res B) (h1 : entB e = true := by kernel_rfl) (h2 : @entOf d e = some (args, A, res, B) := by kernel_rfl) : ∀ x ∈ [e], @EntryOK d Try.prog g x := one_entry (entOK h h1 h2)
theorem ld {d : Den} {t : TypeId} {e : Entry} {a res : Value} {A : HL} (h : LdC Try.prog t a A res) (h1 : entB e = true := by kernel_rfl) (h2 : @entOf d e = some ([a], A, res, A) := by kernel_rfl) : @AppOk d Try.prog [t, 1000000] e := LdOk.mk h h1 h2
theorem st {d : Den} {t : TypeId} {e : Entry} {a v : Value} {A B : HL} (h : StC Try.prog t a v A B) (h1 : entB e = true := by kernel_rfl) (h2 : @entOf d e = some ([a, v], A, .bool false, B) := by kernel_rfl) : @AppOk d Try.prog [t, 1000001] e := StOk.mk h h1 h2
theorem ap {d : Den} {s1 s2 : TypeId} {e : Entry} {args : List Value} {A : HL} {res : Value} {B : HL} (h : AppC Try.prog [s1, s2] args A res B) (h1 : entB e = true := by kernel_rfl) (h2 : @entOf d e = some (args, A, res, B) := by kernel_rfl) (h3 : Nat.blt s2 1000000 = true := by kernel_rfl) : @AppOk d Try.prog [s1, s2] e := AppOk.mk h h1 h2 h3
theorem pth (d : Den) (asm : Asm) (ents : List (FuncId × List Entry)) (hok : @AllOk d Try.prog asm.l) (hlds : @LdsOk d Try.prog asm.lds) (happs : @AppsOk d Try.prog asm.apps) (hent : @EntsOK d Try.prog ents) (c0 : Nat) (A0 : HL) (args0 : List Value) (τ : Ren) {g : FuncId}
    {args : List Value} {A : HL} {res : Value} {B : HL} (h1 : (nodupB (A0.map (·.1)) && injB τ && keepB A0 τ) = true := by kernel_rfl) (hin : @inOf d A0 args0 = some (args, A) := by kernel_rfl)
    (hrun : @outOf d τ [] ((@rec asm Try.prog (tblE noTbl ents) 200).call g args0 c0 (ofL A0)) = some (res, B) := by kernel_rfl) : Ctr Try.prog g args A res B := Ctr.path mixed d asm ents hok hlds happs hent (N := 200) (c0 := c0) (A0 := A0) (args0 := args0) (τ := τ) (ros := []) h1 hin hrun
abbrev kt (op : BinOp) (t : TypeId) (a b : Value) : AK × Value := (.bin op t a b, .bool true)
abbrev kf (op : BinOp) (t : TypeId) (a b : Value) : AK × Value := (.bin op t a b, .bool false)
abbrev tt (i : Nat) : AK × Value := (.test .f64 i, .bool true)
abbrev tf (i : Nat) : AK × Value := (.test .f64 i, .bool false)
abbrev kx (t i o n r : Nat) : AK × Value := (.ixa t (.pointer (some ⟨i, o, none⟩)) (.float .f64 n), .chan (some r))
theorem iA {d : Den} {P : Program} {t el : TypeId} {n len id base i r off : Nat} {fk : FloatKind} {k : IntKind} {q : Int} (hu : P.underlying t = some (.array len el)) (hn : sizeB P el = some n) (hv : d.v i = .int k q) (hr : d.o r = .pointer (some ⟨id, off, none⟩)) (h1 : 0 ≤ q := by omega) (h2 : q < len := by omega) (hoff : off = base + q.toNat * n := by omega) : @AK.Ok d P (.ixa t (.pointer (some ⟨id, base, none⟩)) (.float fk i)) (.chan (some r)) := asIxArr hu hn hv h1 h2 hr hoff
theorem rN : ∀ r ∈ ([] : List (List Value)), r.all plainS = true := no_rows
theorem rC {a : List Value} {l : List (List Value)} (h : a.all plainS = true) (hl : ∀ r ∈ l, r.all plainS = true) : ∀ r ∈ a :: l, r.all plainS = true := fun r hr => by
  rcases List.mem_cons.1 hr with rfl | hr
  · exact h
  · exact hl r hr
noncomputable abbrev dg (s : St) (more opq : List Value) (rows : List (List Value)) (hm : more.all plainS = true := by rfl) (ho : opq.all oneB = true := by rfl) (hr : ∀ r ∈ rows, r.all plainS = true := by repeat first | exact rN | refine rC ?_ ?_ | exact encL_plain _ | exact encOrds_plain _ | exact encI_plain _) : Den := denG s more hm opq ho rows hr
end Go.Proofs.Ytjpgnjaobfbojaa
namespace Go.Proofs.Ytjpgnjaobfbojaa
open Go.Sx
theorem elemO : ElemT Try.prog 28 28 45 6 48 (.agg #[.int .i64 0, .int .i64 0, .int .i64 0, .int .i64 0, .int .i64 0, .int .i64 0]) := ⟨by kernel_rfl, by kernel_rfl, by kernel_rfl, by kernel_rfl, by kernel_rfl⟩
theorem app_ords_nil (x : Ord) (l : List Ord) (cp : Nat) (h : (x :: l).length < 1000000) : AppC Try.prog [28, 28] [.slice none 0 0, .slice (some ⟨1, 0, none⟩) (x :: l).length cp] [(1, .row 45 (.lst (encOrds (x :: l))) true)] (.slice (some ⟨2, 0, none⟩) (x :: l).length INF) [(2, .row 45 (.lst (encOrds (x :: l))) false)] := by
  have h := AppC.nil (P := Try.prog) elemO (l := encOrds (x :: l)) (m := (x :: l).length) (off := 0) (cp := cp) (T := 45) (by simp) (by rw [encOrds_len]; omega) (encOrds_plain _) (by omega) (by unfold HALF; omega)
  have e : ((encOrds (x :: l)).drop 0).take ((x :: l).length * 6) = encOrds (x :: l) := by rw [List.drop_zero, List.take_of_length_le (by rw [encOrds_len]; omega)]
  rw [e] at h
  exact h
theorem app_ords_one (y x : Ord) (l : List Ord) (cp : Nat) (h : (x :: l).length < 1000000) : AppC Try.prog [28, 28] [.slice (some ⟨0, 0, none⟩) 1 1, .slice (some ⟨1, 0, none⟩) (x :: l).length cp] [(0, .row 45 (.lst (encOrd y)) true), (1, .row 45 (.lst (encOrds (x :: l))) true)] (.slice (some ⟨2, 0, none⟩) (y :: x :: l).length INF) [(2, .row 45 (.lst (encOrds (y :: x :: l))) false)] := by
  have h := AppC.cap (P := Try.prog) elemO (bl := encOrd y) (l := encOrds (x :: l)) (n := 1) (m := (x :: l).length) (off := 0) (cp := cp) (T := 45) (Tb := 45) rfl rfl (by simp) (by rw [encOrds_len]; omega) (encOrds_plain _) (by omega) (by unfold HALF; omega)
  have e : encOrd y ++ ((encOrds (x :: l)).drop 0).take ((x :: l).length * 6) = encOrds (y :: x :: l) := by rw [List.drop_zero, List.take_of_length_le (by rw [encOrds_len]; omega)]; rfl
  have e2 : 1 + (x :: l).length = (y :: x :: l).length := by simp only [List.length_cons]; omega
  rw [e, e2] at h
  exact h
theorem done_ctr {s t : St} {o : List Ord} (h : MC 94 [] (reset s) t o) : MC 73 [] s t o := by
  obtain ⟨cap, hcap, hN⟩ := h
  refine MC.mk (cap := cap) ?_
  cases o with
  | nil =>
    · skip
      exact pth (dg s (tv t) [(lineV 1 s.line), lineV 2 t.line] [encL s.line, encL t.line]) ⟨[], [], []⟩ [(94, [(eC0 [pt 0 0] 2 [(27, iv 0), (28, iv 0), (29, iv 0), (30, .bool false), (31, .bool false), (32, .bool false), (33, .bool false), (34, .bool false), (35, .bool false), (36, .bool false), (37, .bool false), (38, iv (-1))] 40 1 1 0 1)])] trivial trivial trivial ⟨oe hN, trivial⟩ 2 (lockL []) (lockP) [(0, 0), (2, 3)]
  | cons x l =>
    · skip
      exact pth (dg s (tv t) [(lineV 1 s.line), lineV 2 t.line, .slice (some ⟨3, 0, none⟩) (x :: l).length cap] [encL s.line, encL t.line, encOrds (x :: l)]) ⟨[], [], []⟩ [(94, [(eC1 [pt 0 0] 2 [(27, iv 0), (28, iv 0), (29, iv 0), (30, .bool false), (31, .bool false), (32, .bool false), (33, .bool false), (34, .bool false), (35, .bool false), (36, .bool false), (37, .bool false), (38, iv (-1))] 40 1 1 0 1 2 (ch 2))])] trivial trivial trivial ⟨oe hN, trivial⟩ 2 (lockL []) (lockP) [(0, 0), (2, 3), (3, 2)]
theorem needless_ctr {s t : St} {o : List Ord} (hi : Hand s) (hlen : o.length < 1000000) (h : MC 73 [] { s with pa := upd s.pa s.hn.toNat false } t o) : MC 69 [] s t (⟨6, s.hn, 0, 0, 0, 2147483647⟩ :: o) := by
  obtain ⟨cap, hcap, hN⟩ := h
  have h1 := hi.1
  have h2 := hi.2
  cases o with
  | nil =>
    refine MC.mk (cap := 1) ?_
    · skip
      exact pth (dg s (b8 (upd s.pa s.hn.toNat false) ++ tv t) [(lineV 1 s.line), pt 0 (10 + s.hn.toNat), lineV 3 t.line] [encL s.line, encL t.line]) ⟨[kx 70 0 10 27 1], [], [([4, 1000001], (eSt 1 (.bool false) 2 [] (p8 10 40)))]⟩ [(73, [(eC0 [pt 0 0] 3 (p8 10 40) 48 2 1 0 1)])] ⟨iA u70 z4 rfl rfl, trivial⟩ trivial ⟨st (st_pa ⟨(s.x), (s.owner), s.sh, s.pa, s.ops, (s.hn), (s.hk), (s.wt), s.go, (s.su), (s.op), s.line⟩ (lineV 1 s.line) 73 (q := s.hn.toNat) (by omega) false), trivial⟩ ⟨oe hN, trivial⟩ 2 (lockL []) (lockP) [(0, 0), (3, 3), (2, 2)]
  | cons x l =>
    refine MC.mk (cap := INF) ?_
    · skip
      exact pth (dg s (b8 (upd s.pa s.hn.toNat false) ++ tv t) [(lineV 1 s.line), pt 0 (10 + s.hn.toNat), lineV 3 t.line, .slice (some ⟨4, 0, none⟩) (x :: l).length cap, .slice (some ⟨5, 0, none⟩) (⟨(6), (s.hn), (0), (0), (0), (2147483647)⟩ :: x :: l : List Ord).length INF] [encL s.line, encL t.line, encOrds (x :: l), encOrds (⟨(6), (s.hn), (0), (0), (0), (2147483647)⟩ :: x :: l)]) ⟨[kx 70 0 10 27 1], [], [([4, 1000001], (eSt 1 (.bool false) 2 [] (p8 10 40))), ([28, 28], { args := [.slice (some ⟨2, 0, none⟩) 1 1, ch 3], c := 5, foots := [⟨2, 0, true, .row 45 (.lst [iv 6, sv 27, iv 0, iv 0, iv 0, iv 2147483647]) false, .dead⟩, ⟨4, 1, true, .orow 45 2 false, .dead⟩], news := [(2, .orow 45 3 false)], res := ch 4 })]⟩ [(73, [(eC1 [pt 0 0] 3 (p8 10 40) 48 2 1 0 1 2 (ch 3))])] ⟨iA u70 z4 rfl rfl, trivial⟩ trivial ⟨st (st_pa ⟨(s.x), (s.owner), s.sh, s.pa, s.ops, (s.hn), (s.hk), (s.wt), s.go, (s.su), (s.op), s.line⟩ (lineV 1 s.line) 73 (q := s.hn.toNat) (by omega) false), ap (app_ords_one ⟨(6), (s.hn), (0), (0), (0), (2147483647)⟩ x l cap hlen), trivial⟩ ⟨oe hN, trivial⟩ 2 (lockL []) (lockP) [(0, 0), (3, 3), (5, 2)]
end Go.Proofs.Ytjpgnjaobfbojaa

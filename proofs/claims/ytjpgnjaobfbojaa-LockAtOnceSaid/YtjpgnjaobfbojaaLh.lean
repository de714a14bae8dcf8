import Derived.Test.YtjpgnjaobfbojaaLg
namespace Go.Proofs.Ytjpgnjaobfbojaa
open Go.Sx
theorem two_entry {d : Den} {g : FuncId} {e f : Entry} (h : @EntryOK d Try.prog g e) (h2 : @EntryOK d Try.prog g f) : ∀ x ∈ [e, f], @EntryOK d Try.prog g x := fun x hx => by
  rcases List.mem_cons.1 hx with rfl | hx
  · exact h
  · rw [List.mem_singleton.1 hx]; exact h2
def outU (id : Nat) : List Int → Value
  | [] => .slice none 0 0
  | a :: r => .slice (some ⟨id, 0, none⟩) (a :: r).length INF
def outUH (id : Nat) : List Int → HL
  | [] => []
  | a :: r => [(id, .row 3 (.lst (encI (a :: r))) false)]
def bookV (s : St) : Value := .agg #[.int .i64 s.x, .int .i64 s.owner, outU 2 (listTo s.sh 8), outU 3 (listTo s.pa 8), .int .i64 (s.ops 0), .int .i64 (s.ops 1), .int .i64 (s.ops 2), .int .i64 (s.ops 3), .int .i64 (s.ops 4), .int .i64 (s.ops 5), .int .i64 (s.ops 6), .int .i64 (s.ops 7), .slice (some ⟨4, 0, none⟩) 0 0, .int .i64 s.hn, .int .i64 s.hk, .bool false, .int .i64 s.op]
def lockN : HL := [(0, .row 73 (.lst (syms [(26, .slice (some ⟨1, 0, none⟩) 0 0)])) false), (1, .row 34 (.lst []) false)]
theorem book_nil_nil {s : St} (ho : s.wt = 0) (hl : s.line = []) (hs : listTo s.sh 8 = []) (hp : listTo s.pa 8 = []) : Ctr Try.prog 15 lockP (lockA 1 s) (bookV s) (lockA 1 s ++ outUH 2 [] ++ outUH 3 [] ++ [(4, .row 34 (.lst []) false)]) := by
  unfold bookV lockA lineV
  rw [hl, hs, hp]
  · by_cases h0 : ((s.wt) : Int) = (0)
    · skip
      exact Ctr.path mixed (denG s [] rfl [(.bool false)] rfl [] no_rows) ⟨[(.bin .neq 71 (sv 29) (.int .i64 0), .bool false)], [], []⟩ [(52, [{ args := [.agg (v8 2)], c := 3, foots := [], news := [], res := .slice none 0 0 }, { args := [.agg (v8 10)], c := 3, foots := [], news := [], res := .slice none 0 0 }])] ⟨asB (c := (((s.wt) : Int) != (0))) (by kernel_rfl) (bne_eq_false_iff_eq.2 (by omega)), trivial⟩ trivial trivial ⟨two_entry (entOK (toL52 (s.sh) hs) rfl (by kernel_rfl)) (entOK (toL52 (s.pa) hp) rfl (by kernel_rfl)), trivial⟩
        (N := 200) (c0 := 2) (A0 := lockN) (args0 := lockP) (τ := [(0, 0), (1, 1), (3, 4)]) (ros := []) (by kernel_rfl) (by kernel_rfl) (by kernel_rfl)
    · exact absurd ho (by first | omega | grind)
theorem book_nil_cons {s : St} {b : Int} {m : List Int} (ho : s.wt = 0) (hl : s.line = []) (hs : listTo s.sh 8 = []) (hp : listTo s.pa 8 = (b :: m)) : Ctr Try.prog 15 lockP (lockA 1 s) (bookV s) (lockA 1 s ++ outUH 2 [] ++ outUH 3 (b :: m) ++ [(4, .row 34 (.lst []) false)]) := by
  unfold bookV lockA lineV
  rw [hl, hs, hp]
  · by_cases h0 : ((s.wt) : Int) = (0)
    · skip
      exact Ctr.path mixed (denG s [] rfl [(.bool false), .slice (some ⟨3, 0, none⟩) (b :: m).length INF] rfl [encI (b :: m)] (rowsK (by repeat first | exact PL.nil | refine PL.cons ?_ ?_ | exact encI_plain _))) ⟨[(.bin .neq 71 (sv 29) (.int .i64 0), .bool false)], [], []⟩ [(52, [{ args := [.agg (v8 2)], c := 3, foots := [], news := [], res := .slice none 0 0 }, { args := [.agg (v8 10)], c := 3, foots := [], news := [(2, .orow 3 0 false)], res := .chan (some 1) }])] ⟨asB (c := (((s.wt) : Int) != (0))) (by kernel_rfl) (bne_eq_false_iff_eq.2 (by omega)), trivial⟩ trivial trivial ⟨two_entry (entOK (toL52 (s.sh) hs) rfl (by kernel_rfl)) (entOK (toL52 (s.pa) hp) rfl (by kernel_rfl)), trivial⟩
        (N := 200) (c0 := 2) (A0 := lockN) (args0 := lockP) (τ := [(0, 0), (1, 1), (3, 3), (4, 4)]) (ros := []) (by kernel_rfl) (by kernel_rfl) (by kernel_rfl)
    · exact absurd ho (by first | omega | grind)
theorem book_cons_nil {s : St} {a : Int} {r : List Int} (ho : s.wt = 0) (hl : s.line = []) (hs : listTo s.sh 8 = (a :: r)) (hp : listTo s.pa 8 = []) : Ctr Try.prog 15 lockP (lockA 1 s) (bookV s) (lockA 1 s ++ outUH 2 (a :: r) ++ outUH 3 [] ++ [(4, .row 34 (.lst []) false)]) := by
  unfold bookV lockA lineV
  rw [hl, hs, hp]
  · by_cases h0 : ((s.wt) : Int) = (0)
    · skip
      exact Ctr.path mixed (denG s [] rfl [(.bool false), .slice (some ⟨3, 0, none⟩) (a :: r).length INF] rfl [encI (a :: r)] (rowsK (by repeat first | exact PL.nil | refine PL.cons ?_ ?_ | exact encI_plain _))) ⟨[(.bin .neq 71 (sv 29) (.int .i64 0), .bool false)], [], []⟩ [(52, [{ args := [.agg (v8 2)], c := 3, foots := [], news := [(2, .orow 3 0 false)], res := .chan (some 1) }, { args := [.agg (v8 10)], c := 4, foots := [], news := [], res := .slice none 0 0 }])] ⟨asB (c := (((s.wt) : Int) != (0))) (by kernel_rfl) (bne_eq_false_iff_eq.2 (by omega)), trivial⟩ trivial trivial ⟨two_entry (entOK (toL52 (s.sh) hs) rfl (by kernel_rfl)) (entOK (toL52 (s.pa) hp) rfl (by kernel_rfl)), trivial⟩
        (N := 200) (c0 := 2) (A0 := lockN) (args0 := lockP) (τ := [(0, 0), (1, 1), (3, 2), (4, 4)]) (ros := []) (by kernel_rfl) (by kernel_rfl) (by kernel_rfl)
    · exact absurd ho (by first | omega | grind)
theorem book_cons_cons {s : St} {a : Int} {r : List Int} {b : Int} {m : List Int} (ho : s.wt = 0) (hl : s.line = []) (hs : listTo s.sh 8 = (a :: r)) (hp : listTo s.pa 8 = (b :: m)) : Ctr Try.prog 15 lockP (lockA 1 s) (bookV s) (lockA 1 s ++ outUH 2 (a :: r) ++ outUH 3 (b :: m) ++ [(4, .row 34 (.lst []) false)]) := by
  unfold bookV lockA lineV
  rw [hl, hs, hp]
  · by_cases h0 : ((s.wt) : Int) = (0)
    · skip
      exact Ctr.path mixed (denG s [] rfl [(.bool false), .slice (some ⟨3, 0, none⟩) (a :: r).length INF, .slice (some ⟨4, 0, none⟩) (b :: m).length INF] rfl [encI (a :: r), encI (b :: m)] (rowsK (by repeat first | exact PL.nil | refine PL.cons ?_ ?_ | exact encI_plain _))) ⟨[(.bin .neq 71 (sv 29) (.int .i64 0), .bool false)], [], []⟩ [(52, [{ args := [.agg (v8 2)], c := 3, foots := [], news := [(2, .orow 3 0 false)], res := .chan (some 1) }, { args := [.agg (v8 10)], c := 4, foots := [], news := [(2, .orow 3 1 false)], res := .chan (some 2) }])] ⟨asB (c := (((s.wt) : Int) != (0))) (by kernel_rfl) (bne_eq_false_iff_eq.2 (by omega)), trivial⟩ trivial trivial ⟨two_entry (entOK (toL52 (s.sh) hs) rfl (by kernel_rfl)) (entOK (toL52 (s.pa) hp) rfl (by kernel_rfl)), trivial⟩
        (N := 200) (c0 := 2) (A0 := lockN) (args0 := lockP) (τ := [(0, 0), (1, 1), (3, 2), (4, 3), (5, 4)]) (ros := []) (by kernel_rfl) (by kernel_rfl) (by kernel_rfl)
    · exact absurd ho (by first | omega | grind)
theorem ctr_weak {P : Program} {g : FuncId} {args : List Value} {A : HL} {res : Value} {B B' : HL} (h : Ctr P g args A res B) (hB : ∀ i, lkL B' i = lkL B i ∨ (lkL B' i = some .dead ∧ (lkL B i).isSome = true)) : Ctr P g args A res B' := by
  have hs : ∀ i, (lkL B' i).isSome = (lkL B i).isSome := fun i => by
    rcases hB i with h1 | ⟨h1, h2⟩
    · rw [h1]
    · rw [h1, h2]; rfl
  have hl : ∀ {i : Nat} {o : AObj}, lkL B' i = some o → live o = true → lkL B i = some o := fun {i o} ho hlo => by
    rcases hB i with h1 | ⟨h1, _⟩
    · rw [← h1]; exact ho
    · rw [h1] at ho; cases ho; cases hlo
  refine ⟨h.1, fun w F E args' hr hla Fe n hW => (h.2 w F E args' hr hla Fe n hW).mono fun e w' ⟨v', E', k1, k2, k3, k4⟩ => ⟨v', E', k1, fun i x hi hb => k2 i x hi (by rw [← hs]; exact hb), ?_, k4⟩⟩
  have hdom := @HR.dom den0 _ _ _ _ _ _ k3
  have hobj := @HR.obj den0 _ _ _ _ _ _ k3
  have hinj := @HR.inj den0 _ _ _ _ _ _ k3
  have hown := @HR.own den0 _ _ _ _ _ _ k3
  refine @HR.mk den0 _ _ _ _ _ _ (@HR.keeps den0 _ _ _ _ _ _ k3) (fun i x hi => ?_) (fun i o ho => ?_) (fun i j o p x y hne ho hp hlo hlp hw hx hy => ?_) (fun i o x ho hw hx => ?_)
  · have := hdom i x hi
    rw [get_ofL] at this ⊢
    intro hn
    have h2 := hs i
    rw [hn] at h2
    cases h5 : lkL B i with
    | none => exact this h5
    | some o => rw [h5] at h2; cases h2
  · rw [get_ofL] at ho
    cases hlo : live o with
    | false => cases o <;> first | trivial | cases hlo
    | true => exact hobj i o (by rw [get_ofL]; exact hl ho hlo)
  · rw [get_ofL] at ho hp
    exact hinj i j o p x y hne (by rw [get_ofL]; exact hl ho hlo) (by rw [get_ofL]; exact hl hp hlp) hlo hlp hw hx hy
  · rw [get_ofL] at ho
    have hlo : live o = true := by cases o <;> first | rfl | cases hw
    exact hown i o x (by rw [get_ofL]; exact hl ho hlo) hw hx
def bookB (s : St) : HL := lockA 1 s ++ [(4, .row 34 (.lst []) false), (2, .dead), (3, .dead)]
theorem book_ctr {s : St} (ho : s.wt = 0) (hl : s.line = []) : Ctr Try.prog 15 lockP (lockA 1 s) (bookV s) (bookB s) := by
  cases hs : listTo s.sh 8 with
  | nil =>
    cases hp : listTo s.pa 8 with
    | nil => exact (((book_nil_nil ho hl hs hp).addDead 2 rfl).addDead 3 rfl).reB fun i => match i with
      | 0 => rfl
      | 1 => rfl
      | 2 => rfl
      | 3 => rfl
      | 4 => rfl
      | i + 5 => rfl
    | cons b m => exact ctr_weak ((book_nil_cons ho hl hs hp).addDead 2 rfl) fun i => match i with
      | 0 => .inl rfl
      | 1 => .inl rfl
      | 2 => .inl rfl
      | 3 => .inr ⟨rfl, rfl⟩
      | 4 => .inl rfl
      | i + 5 => .inl rfl
  | cons a r =>
    cases hp : listTo s.pa 8 with
    | nil => exact ctr_weak ((book_cons_nil ho hl hs hp).addDead 3 rfl) fun i => match i with
      | 0 => .inl rfl
      | 1 => .inl rfl
      | 2 => .inr ⟨rfl, rfl⟩
      | 3 => .inl rfl
      | 4 => .inl rfl
      | i + 5 => .inl rfl
    | cons b m => exact ctr_weak (book_cons_cons ho hl hs hp) fun i => match i with
      | 0 => .inl rfl
      | 1 => .inl rfl
      | 2 => .inr ⟨rfl, rfl⟩
      | 3 => .inr ⟨rfl, rfl⟩
      | 4 => .inl rfl
      | i + 5 => .inl rfl
end Go.Proofs.Ytjpgnjaobfbojaa
namespace Go.Proofs.Ytjpgnjaobfbojaa
open Go.Sx
theorem new_ctr : Ctr Try.prog 13 [] [] (.pointer (some ⟨0, 0, none⟩)) (lockA 1 newS) :=
  Ctr.path mixed (denG newS [] rfl [lvN] rfl [] no_rows) ⟨[], [], []⟩ [] trivial trivial trivial trivial
    (N := 200) (c0 := 0) (A0 := []) (args0 := []) (τ := [(1, 0), (0, 1)]) (ros := []) (by kernel_rfl) (by kernel_rfl) (by kernel_rfl)
theorem known_ctr : Ctr Try.prog 12 [] [] (.bool true) [] :=
  Ctr.path mixed (denG newS [] rfl [lvN] rfl [] no_rows) ⟨[], [], []⟩ [] trivial trivial trivial trivial
    (N := 100000) (c0 := 0) (A0 := []) (args0 := []) (τ := []) (ros := []) (by kernel_rfl) (by kernel_rfl) (by kernel_rfl)
def holdsM (s : St) (n : Int) : Int × Bool := if n ≥ 0 then (if n < 8 then (if s.x = n then (2, true) else if s.sh n.toNat = true then (1, true) else (0, false)) else (0, false)) else (0, false)
theorem holds_ctr (s : St) (n : Int) : Ctr Try.prog 22 (lockP ++ [.int .i64 n]) (lockA 1 s) (.tuple #[.int .i64 (holdsM s n).1, .bool (holdsM s n).2]) (lockA 1 s) := by
  · by_cases h0 : ((n) : Int) ≥ (0)
    · by_cases h1 : ((n) : Int) < (8)
      · by_cases h2 : ((s.x) : Int) = (n)
        · simp only [holdsM, if_pos h0, if_pos h1, if_pos h2]
          exact Ctr.path mixed (denG s [.int .i64 n] rfl [(lineV 1 s.line)] rfl [encL s.line] (rows1 (encL_plain _))) ⟨[(.bin .neq 31 (.chan (some 0)) (.slice none 0 0), .bool true), (.bin .geq 3 (sv 40) (.int .i64 0), .bool true), (.bin .lss 3 (sv 40) (.int .i64 8), .bool true), (.bin .eql 3 (sv 0) (sv 40), .bool true)], [], []⟩ [] ⟨asNeS u31 rfl, asB (c := decide (((n) : Int) ≥ (0))) (by kernel_rfl) (decide_eq_true (by omega)), asB (c := decide (((n) : Int) < (8))) (by kernel_rfl) (decide_eq_true (by omega)), asB (c := (((s.x) : Int) == (n))) (by kernel_rfl) (beq_iff_eq.2 (by omega)), trivial⟩ trivial trivial trivial
            (N := 200) (c0 := 2) (A0 := lockL []) (args0 := (lockP ++ [sv 40])) (τ := [(0, 0), (1, 1)]) (ros := []) (by kernel_rfl) (by kernel_rfl) (by kernel_rfl)
        · by_cases h3 : s.sh n.toNat = true
          · simp only [holdsM, if_pos h0, if_pos h1, if_neg h2, if_pos h3]
            exact Ctr.path mixed (denG s [.int .i64 n, .bool (s.sh n.toNat)] rfl [(lineV 1 s.line), .pointer (some ⟨0, 2 + n.toNat, none⟩)] rfl [encL s.line] (rows1 (encL_plain _))) ⟨[(.bin .neq 31 (.chan (some 0)) (.slice none 0 0), .bool true), (.bin .geq 3 (sv 40) (.int .i64 0), .bool true), (.bin .lss 3 (sv 40) (.int .i64 8), .bool true), (.bin .eql 3 (sv 0) (sv 40), .bool false), (.ixa 70 (.pointer (some ⟨0, 2, none⟩)) (sv 40), .chan (some 1)), (.test .f64 41, .bool true)], [], [([4, 1000000], { args := [.chan (some 1)], c := 2, hids := [(1, 1)], foots := [⟨0, 0, false, .row 73 (.lst (syms [])) false, .row 73 (.lst (syms [])) false⟩], news := [], res := sv 41 })]⟩ [] ⟨asNeS u31 rfl, asB (c := decide (((n) : Int) ≥ (0))) (by kernel_rfl) (decide_eq_true (by omega)), asB (c := decide (((n) : Int) < (8))) (by kernel_rfl) (decide_eq_true (by omega)), asB (c := (((s.x) : Int) == (n))) (by kernel_rfl) (beq_eq_false_iff_ne.2 (by omega)), asIxArr u70 z4 rfl (by omega) (by omega) rfl (by omega), asT (congrArg Value.bool h3), trivial⟩ trivial ⟨LdOk.mk (ld_sh s (lineV 1 s.line) 73 (q := n.toNat) (by omega)) rfl (by kernel_rfl), trivial⟩ trivial
              (N := 200) (c0 := 2) (A0 := lockL []) (args0 := (lockP ++ [sv 40])) (τ := [(0, 0), (1, 1)]) (ros := []) (by kernel_rfl) (by kernel_rfl) (by kernel_rfl)
          · simp only [holdsM, if_pos h0, if_pos h1, if_neg h2, if_neg h3]
            exact Ctr.path mixed (denG s [.int .i64 n, .bool (s.sh n.toNat)] rfl [(lineV 1 s.line), .pointer (some ⟨0, 2 + n.toNat, none⟩)] rfl [encL s.line] (rows1 (encL_plain _))) ⟨[(.bin .neq 31 (.chan (some 0)) (.slice none 0 0), .bool true), (.bin .geq 3 (sv 40) (.int .i64 0), .bool true), (.bin .lss 3 (sv 40) (.int .i64 8), .bool true), (.bin .eql 3 (sv 0) (sv 40), .bool false), (.ixa 70 (.pointer (some ⟨0, 2, none⟩)) (sv 40), .chan (some 1)), (.test .f64 41, .bool false)], [], [([4, 1000000], { args := [.chan (some 1)], c := 2, hids := [(1, 1)], foots := [⟨0, 0, false, .row 73 (.lst (syms [])) false, .row 73 (.lst (syms [])) false⟩], news := [], res := sv 41 })]⟩ [] ⟨asNeS u31 rfl, asB (c := decide (((n) : Int) ≥ (0))) (by kernel_rfl) (decide_eq_true (by omega)), asB (c := decide (((n) : Int) < (8))) (by kernel_rfl) (decide_eq_true (by omega)), asB (c := (((s.x) : Int) == (n))) (by kernel_rfl) (beq_eq_false_iff_ne.2 (by omega)), asIxArr u70 z4 rfl (by omega) (by omega) rfl (by omega), asT (congrArg Value.bool (Bool.eq_false_iff.2 h3)), trivial⟩ trivial ⟨LdOk.mk (ld_sh s (lineV 1 s.line) 73 (q := n.toNat) (by omega)) rfl (by kernel_rfl), trivial⟩ trivial
              (N := 200) (c0 := 2) (A0 := lockL []) (args0 := (lockP ++ [sv 40])) (τ := [(0, 0), (1, 1)]) (ros := []) (by kernel_rfl) (by kernel_rfl) (by kernel_rfl)
      · simp only [holdsM, if_pos h0, if_neg h1]
        exact Ctr.path mixed (denG s [.int .i64 n] rfl [(lineV 1 s.line)] rfl [encL s.line] (rows1 (encL_plain _))) ⟨[(.bin .neq 31 (.chan (some 0)) (.slice none 0 0), .bool true), (.bin .geq 3 (sv 40) (.int .i64 0), .bool true), (.bin .lss 3 (sv 40) (.int .i64 8), .bool false)], [], []⟩ [] ⟨asNeS u31 rfl, asB (c := decide (((n) : Int) ≥ (0))) (by kernel_rfl) (decide_eq_true (by omega)), asB (c := decide (((n) : Int) < (8))) (by kernel_rfl) (decide_eq_false (by omega)), trivial⟩ trivial trivial trivial
          (N := 200) (c0 := 2) (A0 := lockL []) (args0 := (lockP ++ [sv 40])) (τ := [(0, 0), (1, 1)]) (ros := []) (by kernel_rfl) (by kernel_rfl) (by kernel_rfl)
    · simp only [holdsM, if_neg h0]
      exact Ctr.path mixed (denG s [.int .i64 n] rfl [(lineV 1 s.line)] rfl [encL s.line] (rows1 (encL_plain _))) ⟨[(.bin .neq 31 (.chan (some 0)) (.slice none 0 0), .bool true), (.bin .geq 3 (sv 40) (.int .i64 0), .bool false)], [], []⟩ [] ⟨asNeS u31 rfl, asB (c := decide (((n) : Int) ≥ (0))) (by kernel_rfl) (decide_eq_false (by omega)), trivial⟩ trivial trivial trivial
        (N := 200) (c0 := 2) (A0 := lockL []) (args0 := (lockP ++ [sv 40])) (τ := [(0, 0), (1, 1)]) (ros := []) (by kernel_rfl) (by kernel_rfl) (by kernel_rfl)
end Go.Proofs.Ytjpgnjaobfbojaa
namespace Go.Proofs.Ytjpgnjaobfbojaa
open Go.Sx
theorem u55 : Go.Program.underlying Try.prog 55 = some (.slice 61) := by kernel_rfl
theorem z61 : sizeB Try.prog 61 = some 2 := by kernel_rfl
theorem a61 : aggB Try.prog 61 = some true := by kernel_rfl
theorem a45 : aggB Try.prog 45 = some true := by kernel_rfl
def askAt (aks : List (Int × Int)) (i : Nat) : Int × Int := aks[i]?.getD default
theorem ask_len {aks : List (Int × Int)} {i : Nat} (h : i < aks.length) : i * 2 + 2 ≤ (encL aks).length := by rw [encL_len]; omega
theorem ask_row {aks : List (Int × Int)} {i : Nat} (h : i < aks.length) : ((encL aks).drop (i * 2)).take 2 = [.int .i64 (askAt aks i).1, .int .i64 (askAt aks i).2] := by
  have hg : aks[i]? = some aks[i] := by simp [h]
  have : askAt aks i = aks[i] := by unfold askAt; rw [hg]; rfl
  rw [this]
  exact encL_at aks i _ hg
noncomputable abbrev dT (s : St) (md opf : Nat → Int) (aks : List (Int × Int)) (cp i n : Nat) (L : List Ord) (c2 : Nat) : Den :=
  denG s (i8 md ++ i8 opf ++ [.int .i64 (i : Nat), .int .i64 ((i + 1 : Nat) : Int), .int .i64 (aks.length : Nat), .int .i64 (askAt aks i).1, .int .i64 (askAt aks i).2, .int .i64 (n : Nat), .int .i64 ((n + 1 : Nat) : Int), .int .i64 (L.length : Nat)]) rfl
    [lineV 1 s.line, .slice (some ⟨5, 0, none⟩) aks.length cp, .pointer (some ⟨5, i * 2, none⟩), .slice (some ⟨7, 0, none⟩) L.length c2, .pointer (some ⟨7, 0, none⟩)] rfl [encL s.line, encL aks, encOrds L] (rows3 (encL_plain _) (encL_plain _) (encOrds_plain _))
def GT (T : TypeId) (aks : List (Int × Int)) (d : Den) (x : Cfg) : Prop := GoodS d Try.prog 6 [(5, .row T (.lst (encL aks)) true)] (.bool true) [] [] x
def hT0 (T : TypeId) : HL := [(5, .orow T 1 true)]
def hT1 (T : TypeId) : HL := [(0, .row 73 (.lst (syms [])) false), (1, .orow 34 0 false), (4, .row 59 (.lst (ndSy 0 40 48)) false), (5, .orow T 1 true)]
def hT2 (T : TypeId) : HL := hT1 T ++ [(6, .row 61 (.lst [sv 59, sv 60]) false)]
def fT1 : FV := [(0, ch 1), (3, .pointer (some ⟨4, 0, none⟩)), (4, sv 56)]
def newL (l : Nat) : List Value := cells newS (.slice (some ⟨l, 0, none⟩) 0 0)
def eNew : Entry := { args := [], c := 6, foots := [], news := [(0, .row 73 (.lst (newL 7)) false), (1, .row 34 (.lst []) false)], res := .pointer (some ⟨6, 0, none⟩) }
noncomputable def kT1 : List KI := ((ksteps (@rec ⟨[(.len 55 (ch 1), sv 58), (.bin .gtr 3 (sv 58) (.int .i64 100), .bool false)], [], []⟩ Try.prog (tblE noTbl [(13, [eNew])]) 100) 13 (startC Try.prog 6 [ch 1] 6 (hT0 61))).map (·.k)).getD []
noncomputable def xT1 (T : TypeId) : Cfg := headC kT1 .normal fT1 217 6 (hT1 T)
noncomputable def kT2 : List KI := ((ksteps (@rec ⟨[(.len 55 (ch 1), sv 58), (.bin .lss 3 (sv 56) (sv 58), .bool true), (.ixa 55 (ch 1) (sv 56), ch 2), (.bin .lss 3 (sv 60) (.int .i64 0), .bool false), (.bin .geq 3 (sv 60) (.int .i64 8), .bool false), (.bin .eql 3 (sv 59) (.int .i64 1), .bool false), (.bin .eql 3 (sv 59) (.int .i64 2), .bool false), (.bin .eql 3 (sv 59) (.int .i64 3), .bool false), (.bin .eql 3 (sv 59) (.int .i64 4), .bool false)], [⟨61, 2, 5, 1, .agg #[sv 59, sv 60]⟩], []⟩ Try.prog noTbl 100) 27 (xT1 61)).map (·.k)).getD []
noncomputable def xT2 (T : TypeId) : List Ord → Cfg
  | [] => headC kT2 .normal [(0, ch 1), (3, .pointer (some ⟨4, 0, none⟩)), (4, sv 56), (5, .pointer (some ⟨6, 0, none⟩)), (6, .slice none 0 0), (7, sv 61)] 217 8 (hT2 T)
  | _ :: _ => headC kT2 .normal [(0, ch 1), (3, .pointer (some ⟨4, 0, none⟩)), (4, sv 56), (5, .pointer (some ⟨6, 0, none⟩)), (6, ch 3), (7, sv 61)] 217 8 (hT2 T ++ [(7, .orow 45 2 false)])
section
variable {s t : St} {md opf : Nat → Int} {aks : List (Int × Int)} {cp i n c2 : Nat} {L o : List Ord} {T : TypeId}
theorem top_fin (ho : aks.length ≤ i) : GT T aks (dT s md opf aks cp i n L c2) (xT1 T) := by
  unfold GT
  · by_cases h0 : ((i) : Int) < (aks.length)
    · by_cases h1 : (((askAt aks i).2) : Int) < (0)
      · exact ab ho
      · by_cases h2 : (((askAt aks i).2) : Int) ≥ (8)
        · exact ab ho
        · by_cases h3 : (((askAt aks i).1) : Int) = (1)
          · by_cases h4 : (((md) (askAt aks i).2.toNat) : Int) = (0)
            · exact ab ho
            · exact ab ho
          · by_cases h5 : (((askAt aks i).1) : Int) = (2)
            · by_cases h6 : (((md) (askAt aks i).2.toNat) : Int) = (2)
              · exact ab ho
              · exact ab ho
            · by_cases h7 : (((askAt aks i).1) : Int) = (3)
              · exact ab ho
              · by_cases h8 : (((askAt aks i).1) : Int) = (4)
                · by_cases h9 : (((md) (askAt aks i).2.toNat) : Int) = (0)
                  · exact ab ho
                  · exact ab ho
                · exact ab ho
    · refine @goodS_seg (dT s md opf aks cp i n L c2) (denG s (n8 md ++ n8 opf ++ [iv (i : Nat), iv ((i + 1 : Nat) : Int), iv (aks.length : Nat), iv (askAt aks i).1, iv (askAt aks i).2, iv (n : Nat), iv ((n + 1 : Nat) : Int), iv (L.length : Nat)]) rfl [(lineV 1 s.line), .slice (some ⟨5, 0, none⟩) aks.length cp, pt 5 (i * 2), .slice (some ⟨7, 0, none⟩) L.length c2, pt 7 0] rfl [encL s.line, encL aks, encOrds L] (rows3 (encL_plain _) (encL_plain _) (encOrds_plain _))) Try.prog mixed ⟨[], [], []⟩ [] trivial trivial trivial trivial 100 0 6 _ _ _ _ _ [(0, 0), (1, 1), (4, 4), (5, 5)] [] kT1 .normal fT1 217 6 (hT1 T) (by kernel_rfl) (by kernel_rfl) (by kernel_rfl) ?_
      exact @goodS_fin (denG s (n8 md ++ n8 opf ++ [iv (i : Nat), iv ((i + 1 : Nat) : Int), iv (aks.length : Nat), iv (askAt aks i).1, iv (askAt aks i).2, iv (n : Nat), iv ((n + 1 : Nat) : Int), iv (L.length : Nat)]) rfl [(lineV 1 s.line), .slice (some ⟨5, 0, none⟩) aks.length cp, pt 5 (i * 2), .slice (some ⟨7, 0, none⟩) L.length c2, pt 7 0] rfl [encL s.line, encL aks, encOrds L] (rows3 (encL_plain _) (encL_plain _) (encOrds_plain _))) Try.prog mixed ⟨[(.len 55 (ch 1), sv 58), (.bin .lss 3 (sv 56) (sv 58), .bool false)], [], []⟩ [(12, [{ args := [], c := 6, foots := [], news := [], res := .bool true }])] ⟨asLen u55 rfl (by kernel_rfl), qF (((i) : Int) < (aks.length)), trivial⟩ trivial trivial ⟨oe known_ctr, trivial⟩ 100 10 6 _ _ _ _ _ [] [] (by kernel_rfl) (by kernel_rfl)
theorem top_out (hlen : aks.length ≤ 100) (ho : i < aks.length ∧ ¬ (0 ≤ (askAt aks i).2 ∧ (askAt aks i).2 < 8)) (hg : GT T aks (dT s md opf aks cp (i + 1) n L c2) (xT1 T)) : GT T aks (dT s md opf aks cp i n L c2) (xT1 T) := by
  unfold GT
  have hi := ho.1
  unfold GT at hg
  · by_cases h0 : ((i) : Int) < (aks.length)
    · by_cases h1 : (((askAt aks i).2) : Int) < (0)
      · refine @goodS_seg (dT s md opf aks cp i n L c2) (denG s (n8 md ++ n8 opf ++ [iv (i : Nat), iv ((i + 1 : Nat) : Int), iv (aks.length : Nat), iv (askAt aks i).1, iv (askAt aks i).2, iv (n : Nat), iv ((n + 1 : Nat) : Int), iv (L.length : Nat)]) rfl [(lineV 1 s.line), .slice (some ⟨5, 0, none⟩) aks.length cp, pt 5 (i * 2), .slice (some ⟨7, 0, none⟩) L.length c2, pt 7 0] rfl [encL s.line, encL aks, encOrds L] (rows3 (encL_plain _) (encL_plain _) (encOrds_plain _))) Try.prog mixed ⟨[], [], []⟩ [] trivial trivial trivial trivial 100 0 6 _ _ _ _ _ [(0, 0), (1, 1), (4, 4), (5, 5)] [] kT1 .normal fT1 217 6 (hT1 T) (by kernel_rfl) (by kernel_rfl) (by kernel_rfl) ?_
        exact @goodS_seg (denG s (n8 md ++ n8 opf ++ [iv (i : Nat), iv ((i + 1 : Nat) : Int), iv (aks.length : Nat), iv (askAt aks i).1, iv (askAt aks i).2, iv (n : Nat), iv ((n + 1 : Nat) : Int), iv (L.length : Nat)]) rfl [(lineV 1 s.line), .slice (some ⟨5, 0, none⟩) aks.length cp, pt 5 (i * 2), .slice (some ⟨7, 0, none⟩) L.length c2, pt 7 0] rfl [encL s.line, encL aks, encOrds L] (rows3 (encL_plain _) (encL_plain _) (encOrds_plain _))) _ Try.prog mixed ⟨[(.len 55 (ch 1), sv 58), (.bin .lss 3 (sv 56) (sv 58), .bool true), (.ixa 55 (ch 1) (sv 56), ch 2), (.bin .lss 3 (sv 60) (iv 0), .bool true), (.bin .add 3 (sv 56) (iv 1), sv 57)], [⟨61, 2, 5, 1, .agg #[sv 59, sv 60]⟩], []⟩ [] ⟨asLen u55 rfl (by kernel_rfl), qT (((i) : Int) < (aks.length)), asIxa u55 z61 rfl rfl (by omega) (by omega) rfl (by simp), qT ((((askAt aks i).2) : Int) < (0)), asP (u := iv ((i + 1 : Nat) : Int)) (Eq.trans (b := some (iv (IntKind.i64.wrap ((i : Int) + 1)))) (by kernel_rfl) (by rw [wrap_id (by omega) (by omega)]; rfl)) (by kernel_rfl), trivial⟩ ⟨ld_agg a61 z61 rfl (ask_len hi) (ask_row hi) rfl (by kernel_rfl), trivial⟩ trivial trivial 100 16 6 _ _ _ _ _ [(0, 0), (1, 1), (4, 4), (5, 5)] [] _ _ _ _ _ _ (by kernel_rfl) (by kernel_rfl) (by kernel_rfl) hg
      · by_cases h2 : (((askAt aks i).2) : Int) ≥ (8)
        · refine @goodS_seg (dT s md opf aks cp i n L c2) (denG s (n8 md ++ n8 opf ++ [iv (i : Nat), iv ((i + 1 : Nat) : Int), iv (aks.length : Nat), iv (askAt aks i).1, iv (askAt aks i).2, iv (n : Nat), iv ((n + 1 : Nat) : Int), iv (L.length : Nat)]) rfl [(lineV 1 s.line), .slice (some ⟨5, 0, none⟩) aks.length cp, pt 5 (i * 2), .slice (some ⟨7, 0, none⟩) L.length c2, pt 7 0] rfl [encL s.line, encL aks, encOrds L] (rows3 (encL_plain _) (encL_plain _) (encOrds_plain _))) Try.prog mixed ⟨[], [], []⟩ [] trivial trivial trivial trivial 100 0 6 _ _ _ _ _ [(0, 0), (1, 1), (4, 4), (5, 5)] [] kT1 .normal fT1 217 6 (hT1 T) (by kernel_rfl) (by kernel_rfl) (by kernel_rfl) ?_
          exact @goodS_seg (denG s (n8 md ++ n8 opf ++ [iv (i : Nat), iv ((i + 1 : Nat) : Int), iv (aks.length : Nat), iv (askAt aks i).1, iv (askAt aks i).2, iv (n : Nat), iv ((n + 1 : Nat) : Int), iv (L.length : Nat)]) rfl [(lineV 1 s.line), .slice (some ⟨5, 0, none⟩) aks.length cp, pt 5 (i * 2), .slice (some ⟨7, 0, none⟩) L.length c2, pt 7 0] rfl [encL s.line, encL aks, encOrds L] (rows3 (encL_plain _) (encL_plain _) (encOrds_plain _))) _ Try.prog mixed ⟨[(.len 55 (ch 1), sv 58), (.bin .lss 3 (sv 56) (sv 58), .bool true), (.ixa 55 (ch 1) (sv 56), ch 2), (.bin .lss 3 (sv 60) (iv 0), .bool false), (.bin .geq 3 (sv 60) (iv 8), .bool true), (.bin .add 3 (sv 56) (iv 1), sv 57)], [⟨61, 2, 5, 1, .agg #[sv 59, sv 60]⟩], []⟩ [] ⟨asLen u55 rfl (by kernel_rfl), qT (((i) : Int) < (aks.length)), asIxa u55 z61 rfl rfl (by omega) (by omega) rfl (by simp), qF ((((askAt aks i).2) : Int) < (0)), qT ((((askAt aks i).2) : Int) ≥ (8)), asP (u := iv ((i + 1 : Nat) : Int)) (Eq.trans (b := some (iv (IntKind.i64.wrap ((i : Int) + 1)))) (by kernel_rfl) (by rw [wrap_id (by omega) (by omega)]; rfl)) (by kernel_rfl), trivial⟩ ⟨ld_agg a61 z61 rfl (ask_len hi) (ask_row hi) rfl (by kernel_rfl), trivial⟩ trivial trivial 100 16 6 _ _ _ _ _ [(0, 0), (1, 1), (4, 4), (5, 5)] [] _ _ _ _ _ _ (by kernel_rfl) (by kernel_rfl) (by kernel_rfl) hg
        · by_cases h3 : (((askAt aks i).1) : Int) = (1)
          · by_cases h4 : (((md) (askAt aks i).2.toNat) : Int) = (0)
            · exact ab ho
            · exact ab ho
          · by_cases h5 : (((askAt aks i).1) : Int) = (2)
            · by_cases h6 : (((md) (askAt aks i).2.toNat) : Int) = (2)
              · exact ab ho
              · exact ab ho
            · by_cases h7 : (((askAt aks i).1) : Int) = (3)
              · exact ab ho
              · by_cases h8 : (((askAt aks i).1) : Int) = (4)
                · by_cases h9 : (((md) (askAt aks i).2.toNat) : Int) = (0)
                  · exact ab ho
                  · exact ab ho
                · exact ab ho
    · exact ab ho
theorem ask_none (ho : i < aks.length ∧ (0 ≤ (askAt aks i).2 ∧ (askAt aks i).2 < 8) ∧ ¬ (((askAt aks i).1 = 1 ∧ md (askAt aks i).2.toNat = 0) ∨ ((askAt aks i).1 = 2 ∧ ¬ md (askAt aks i).2.toNat = 2) ∨ (askAt aks i).1 = 3 ∨ ((askAt aks i).1 = 4 ∧ ¬ md (askAt aks i).2.toNat = 0))) (hg : GT T aks (dT s md opf aks cp i 0 [] 0) (xT2 T [])) : GT T aks (dT s md opf aks cp i n L c2) (xT1 T) := by
  unfold GT
  have hi := ho.1
  unfold GT at hg
  · by_cases h0 : ((i) : Int) < (aks.length)
    · by_cases h1 : (((askAt aks i).2) : Int) < (0)
      · exact ab ho
      · by_cases h2 : (((askAt aks i).2) : Int) ≥ (8)
        · exact ab ho
        · by_cases h3 : (((askAt aks i).1) : Int) = (1)
          · by_cases h4 : (((md) (askAt aks i).2.toNat) : Int) = (0)
            · exact ab ho
            · refine @goodS_seg (dT s md opf aks cp i n L c2) (denG s (n8 md ++ n8 opf ++ [iv (i : Nat), iv ((i + 1 : Nat) : Int), iv (aks.length : Nat), iv (askAt aks i).1, iv (askAt aks i).2, iv (n : Nat), iv ((n + 1 : Nat) : Int), iv (L.length : Nat), iv ((md) (askAt aks i).2.toNat)]) rfl [(lineV 1 s.line), .slice (some ⟨5, 0, none⟩) aks.length cp, pt 5 (i * 2), .slice (some ⟨7, 0, none⟩) L.length c2, pt 7 0, pt 4 (1 + (askAt aks i).2.toNat)] rfl [encL s.line, encL aks, encOrds L] (rows3 (encL_plain _) (encL_plain _) (encOrds_plain _))) Try.prog mixed ⟨[], [], []⟩ [] trivial trivial trivial trivial 100 0 6 _ _ _ _ _ [(0, 0), (1, 1), (4, 4), (5, 5)] [] kT1 .normal fT1 217 6 (hT1 T) (by kernel_rfl) (by kernel_rfl) (by kernel_rfl) ?_
              exact @goodS_seg (denG s (n8 md ++ n8 opf ++ [iv (i : Nat), iv ((i + 1 : Nat) : Int), iv (aks.length : Nat), iv (askAt aks i).1, iv (askAt aks i).2, iv (n : Nat), iv ((n + 1 : Nat) : Int), iv (L.length : Nat), iv ((md) (askAt aks i).2.toNat)]) rfl [(lineV 1 s.line), .slice (some ⟨5, 0, none⟩) aks.length cp, pt 5 (i * 2), .slice (some ⟨7, 0, none⟩) L.length c2, pt 7 0, pt 4 (1 + (askAt aks i).2.toNat)] rfl [encL s.line, encL aks, encOrds L] (rows3 (encL_plain _) (encL_plain _) (encOrds_plain _))) _ Try.prog mixed ⟨[(.len 55 (ch 1), sv 58), (.bin .lss 3 (sv 56) (sv 58), .bool true), (.ixa 55 (ch 1) (sv 56), ch 2), (.bin .lss 3 (sv 60) (iv 0), .bool false), (.bin .geq 3 (sv 60) (iv 8), .bool false), (.bin .eql 3 (sv 59) (iv 1), .bool true), (.ixa 57 (pt 4 1) (sv 60), ch 5), (.bin .eql 40 (sv 64) (iv 0), .bool false)], [⟨61, 2, 5, 1, .agg #[sv 59, sv 60]⟩], [([40, 1000000], { args := [ch 5], c := 7, hids := [(0, 1)], foots := [⟨4, 0, true, .row 59 (.lst (ndSy 0 40 48)) false, .row 59 (.lst (ndSy 0 40 48)) false⟩], news := [], res := sv 64 })]⟩ [] ⟨asLen u55 rfl (by kernel_rfl), qT (((i) : Int) < (aks.length)), asIxa u55 z61 rfl rfl (by omega) (by omega) rfl (by simp), qF ((((askAt aks i).2) : Int) < (0)), qF ((((askAt aks i).2) : Int) ≥ (8)), eT (((askAt aks i).1) : Int) (1), asIxArr u57 z40 rfl (by omega) (by omega) rfl (by omega), eF (((md) (askAt aks i).2.toNat) : Int) (0), trivial⟩ ⟨ld_agg a61 z61 rfl (ask_len hi) (ask_row hi) rfl (by kernel_rfl), trivial⟩ ⟨LdOk.mk2 (ld_md (md) (opf) (q := (askAt aks i).2.toNat) (by omega)) rfl (by kernel_rfl) (ndR_sub (md) (opf)) (by kernel_rfl), trivial⟩ trivial 100 27 6 _ _ _ _ _ [(0, 0), (1, 1), (4, 4), (5, 5), (6, 6)] [] _ _ _ _ _ _ (by kernel_rfl) (by kernel_rfl) (by kernel_rfl) hg
          · by_cases h5 : (((askAt aks i).1) : Int) = (2)
            · by_cases h6 : (((md) (askAt aks i).2.toNat) : Int) = (2)
              · refine @goodS_seg (dT s md opf aks cp i n L c2) (denG s (n8 md ++ n8 opf ++ [iv (i : Nat), iv ((i + 1 : Nat) : Int), iv (aks.length : Nat), iv (askAt aks i).1, iv (askAt aks i).2, iv (n : Nat), iv ((n + 1 : Nat) : Int), iv (L.length : Nat), iv ((md) (askAt aks i).2.toNat)]) rfl [(lineV 1 s.line), .slice (some ⟨5, 0, none⟩) aks.length cp, pt 5 (i * 2), .slice (some ⟨7, 0, none⟩) L.length c2, pt 7 0, pt 4 (1 + (askAt aks i).2.toNat)] rfl [encL s.line, encL aks, encOrds L] (rows3 (encL_plain _) (encL_plain _) (encOrds_plain _))) Try.prog mixed ⟨[], [], []⟩ [] trivial trivial trivial trivial 100 0 6 _ _ _ _ _ [(0, 0), (1, 1), (4, 4), (5, 5)] [] kT1 .normal fT1 217 6 (hT1 T) (by kernel_rfl) (by kernel_rfl) (by kernel_rfl) ?_
                exact @goodS_seg (denG s (n8 md ++ n8 opf ++ [iv (i : Nat), iv ((i + 1 : Nat) : Int), iv (aks.length : Nat), iv (askAt aks i).1, iv (askAt aks i).2, iv (n : Nat), iv ((n + 1 : Nat) : Int), iv (L.length : Nat), iv ((md) (askAt aks i).2.toNat)]) rfl [(lineV 1 s.line), .slice (some ⟨5, 0, none⟩) aks.length cp, pt 5 (i * 2), .slice (some ⟨7, 0, none⟩) L.length c2, pt 7 0, pt 4 (1 + (askAt aks i).2.toNat)] rfl [encL s.line, encL aks, encOrds L] (rows3 (encL_plain _) (encL_plain _) (encOrds_plain _))) _ Try.prog mixed ⟨[(.len 55 (ch 1), sv 58), (.bin .lss 3 (sv 56) (sv 58), .bool true), (.ixa 55 (ch 1) (sv 56), ch 2), (.bin .lss 3 (sv 60) (iv 0), .bool false), (.bin .geq 3 (sv 60) (iv 8), .bool false), (.bin .eql 3 (sv 59) (iv 1), .bool false), (.bin .eql 3 (sv 59) (iv 2), .bool true), (.ixa 57 (pt 4 1) (sv 60), ch 5), (.bin .neq 40 (sv 64) (iv 2), .bool false)], [⟨61, 2, 5, 1, .agg #[sv 59, sv 60]⟩], [([40, 1000000], { args := [ch 5], c := 7, hids := [(0, 1)], foots := [⟨4, 0, true, .row 59 (.lst (ndSy 0 40 48)) false, .row 59 (.lst (ndSy 0 40 48)) false⟩], news := [], res := sv 64 })]⟩ [] ⟨asLen u55 rfl (by kernel_rfl), qT (((i) : Int) < (aks.length)), asIxa u55 z61 rfl rfl (by omega) (by omega) rfl (by simp), qF ((((askAt aks i).2) : Int) < (0)), qF ((((askAt aks i).2) : Int) ≥ (8)), eF (((askAt aks i).1) : Int) (1), eT (((askAt aks i).1) : Int) (2), asIxArr u57 z40 rfl (by omega) (by omega) rfl (by omega), nF (((md) (askAt aks i).2.toNat) : Int) (2), trivial⟩ ⟨ld_agg a61 z61 rfl (ask_len hi) (ask_row hi) rfl (by kernel_rfl), trivial⟩ ⟨LdOk.mk2 (ld_md (md) (opf) (q := (askAt aks i).2.toNat) (by omega)) rfl (by kernel_rfl) (ndR_sub (md) (opf)) (by kernel_rfl), trivial⟩ trivial 100 27 6 _ _ _ _ _ [(0, 0), (1, 1), (4, 4), (5, 5), (6, 6)] [] _ _ _ _ _ _ (by kernel_rfl) (by kernel_rfl) (by kernel_rfl) hg
              · exact ab ho
            · by_cases h7 : (((askAt aks i).1) : Int) = (3)
              · exact ab ho
              · by_cases h8 : (((askAt aks i).1) : Int) = (4)
                · by_cases h9 : (((md) (askAt aks i).2.toNat) : Int) = (0)
                  · refine @goodS_seg (dT s md opf aks cp i n L c2) (denG s (n8 md ++ n8 opf ++ [iv (i : Nat), iv ((i + 1 : Nat) : Int), iv (aks.length : Nat), iv (askAt aks i).1, iv (askAt aks i).2, iv (n : Nat), iv ((n + 1 : Nat) : Int), iv (L.length : Nat), iv ((md) (askAt aks i).2.toNat)]) rfl [(lineV 1 s.line), .slice (some ⟨5, 0, none⟩) aks.length cp, pt 5 (i * 2), .slice (some ⟨7, 0, none⟩) L.length c2, pt 7 0, pt 4 (1 + (askAt aks i).2.toNat)] rfl [encL s.line, encL aks, encOrds L] (rows3 (encL_plain _) (encL_plain _) (encOrds_plain _))) Try.prog mixed ⟨[], [], []⟩ [] trivial trivial trivial trivial 100 0 6 _ _ _ _ _ [(0, 0), (1, 1), (4, 4), (5, 5)] [] kT1 .normal fT1 217 6 (hT1 T) (by kernel_rfl) (by kernel_rfl) (by kernel_rfl) ?_
                    exact @goodS_seg (denG s (n8 md ++ n8 opf ++ [iv (i : Nat), iv ((i + 1 : Nat) : Int), iv (aks.length : Nat), iv (askAt aks i).1, iv (askAt aks i).2, iv (n : Nat), iv ((n + 1 : Nat) : Int), iv (L.length : Nat), iv ((md) (askAt aks i).2.toNat)]) rfl [(lineV 1 s.line), .slice (some ⟨5, 0, none⟩) aks.length cp, pt 5 (i * 2), .slice (some ⟨7, 0, none⟩) L.length c2, pt 7 0, pt 4 (1 + (askAt aks i).2.toNat)] rfl [encL s.line, encL aks, encOrds L] (rows3 (encL_plain _) (encL_plain _) (encOrds_plain _))) _ Try.prog mixed ⟨[(.len 55 (ch 1), sv 58), (.bin .lss 3 (sv 56) (sv 58), .bool true), (.ixa 55 (ch 1) (sv 56), ch 2), (.bin .lss 3 (sv 60) (iv 0), .bool false), (.bin .geq 3 (sv 60) (iv 8), .bool false), (.bin .eql 3 (sv 59) (iv 1), .bool false), (.bin .eql 3 (sv 59) (iv 2), .bool false), (.bin .eql 3 (sv 59) (iv 3), .bool false), (.bin .eql 3 (sv 59) (iv 4), .bool true), (.ixa 57 (pt 4 1) (sv 60), ch 5), (.bin .neq 40 (sv 64) (iv 0), .bool false)], [⟨61, 2, 5, 1, .agg #[sv 59, sv 60]⟩], [([40, 1000000], { args := [ch 5], c := 7, hids := [(0, 1)], foots := [⟨4, 0, true, .row 59 (.lst (ndSy 0 40 48)) false, .row 59 (.lst (ndSy 0 40 48)) false⟩], news := [], res := sv 64 })]⟩ [] ⟨asLen u55 rfl (by kernel_rfl), qT (((i) : Int) < (aks.length)), asIxa u55 z61 rfl rfl (by omega) (by omega) rfl (by simp), qF ((((askAt aks i).2) : Int) < (0)), qF ((((askAt aks i).2) : Int) ≥ (8)), eF (((askAt aks i).1) : Int) (1), eF (((askAt aks i).1) : Int) (2), eF (((askAt aks i).1) : Int) (3), eT (((askAt aks i).1) : Int) (4), asIxArr u57 z40 rfl (by omega) (by omega) rfl (by omega), nF (((md) (askAt aks i).2.toNat) : Int) (0), trivial⟩ ⟨ld_agg a61 z61 rfl (ask_len hi) (ask_row hi) rfl (by kernel_rfl), trivial⟩ ⟨LdOk.mk2 (ld_md (md) (opf) (q := (askAt aks i).2.toNat) (by omega)) rfl (by kernel_rfl) (ndR_sub (md) (opf)) (by kernel_rfl), trivial⟩ trivial 100 27 6 _ _ _ _ _ [(0, 0), (1, 1), (4, 4), (5, 5), (6, 6)] [] _ _ _ _ _ _ (by kernel_rfl) (by kernel_rfl) (by kernel_rfl) hg
                  · exact ab ho
                · refine @goodS_seg (dT s md opf aks cp i n L c2) (denG s (n8 md ++ n8 opf ++ [iv (i : Nat), iv ((i + 1 : Nat) : Int), iv (aks.length : Nat), iv (askAt aks i).1, iv (askAt aks i).2, iv (n : Nat), iv ((n + 1 : Nat) : Int), iv (L.length : Nat)]) rfl [(lineV 1 s.line), .slice (some ⟨5, 0, none⟩) aks.length cp, pt 5 (i * 2), .slice (some ⟨7, 0, none⟩) L.length c2, pt 7 0] rfl [encL s.line, encL aks, encOrds L] (rows3 (encL_plain _) (encL_plain _) (encOrds_plain _))) Try.prog mixed ⟨[], [], []⟩ [] trivial trivial trivial trivial 100 0 6 _ _ _ _ _ [(0, 0), (1, 1), (4, 4), (5, 5)] [] kT1 .normal fT1 217 6 (hT1 T) (by kernel_rfl) (by kernel_rfl) (by kernel_rfl) ?_
                  exact @goodS_seg (denG s (n8 md ++ n8 opf ++ [iv (i : Nat), iv ((i + 1 : Nat) : Int), iv (aks.length : Nat), iv (askAt aks i).1, iv (askAt aks i).2, iv (n : Nat), iv ((n + 1 : Nat) : Int), iv (L.length : Nat)]) rfl [(lineV 1 s.line), .slice (some ⟨5, 0, none⟩) aks.length cp, pt 5 (i * 2), .slice (some ⟨7, 0, none⟩) L.length c2, pt 7 0] rfl [encL s.line, encL aks, encOrds L] (rows3 (encL_plain _) (encL_plain _) (encOrds_plain _))) _ Try.prog mixed ⟨[(.len 55 (ch 1), sv 58), (.bin .lss 3 (sv 56) (sv 58), .bool true), (.ixa 55 (ch 1) (sv 56), ch 2), (.bin .lss 3 (sv 60) (iv 0), .bool false), (.bin .geq 3 (sv 60) (iv 8), .bool false), (.bin .eql 3 (sv 59) (iv 1), .bool false), (.bin .eql 3 (sv 59) (iv 2), .bool false), (.bin .eql 3 (sv 59) (iv 3), .bool false), (.bin .eql 3 (sv 59) (iv 4), .bool false)], [⟨61, 2, 5, 1, .agg #[sv 59, sv 60]⟩], []⟩ [] ⟨asLen u55 rfl (by kernel_rfl), qT (((i) : Int) < (aks.length)), asIxa u55 z61 rfl rfl (by omega) (by omega) rfl (by simp), qF ((((askAt aks i).2) : Int) < (0)), qF ((((askAt aks i).2) : Int) ≥ (8)), eF (((askAt aks i).1) : Int) (1), eF (((askAt aks i).1) : Int) (2), eF (((askAt aks i).1) : Int) (3), eF (((askAt aks i).1) : Int) (4), trivial⟩ ⟨ld_agg a61 z61 rfl (ask_len hi) (ask_row hi) rfl (by kernel_rfl), trivial⟩ trivial trivial 100 27 6 _ _ _ _ _ [(0, 0), (1, 1), (4, 4), (5, 5), (6, 6)] [] _ _ _ _ _ _ (by kernel_rfl) (by kernel_rfl) (by kernel_rfl) hg
    · exact ab ho
theorem ask_1 (ho : i < aks.length ∧ (0 ≤ (askAt aks i).2 ∧ (askAt aks i).2 < 8) ∧ (askAt aks i).1 = 1 ∧ md (askAt aks i).2.toNat = 0) (h : MC 24 [.int .i64 (askAt aks i).2, .int .i64 1] s t o) (hg : ∀ c, CapOK o c → GT T aks (dT t md opf aks cp i 0 o c) (xT2 T o)) : GT T aks (dT s md opf aks cp i n L c2) (xT1 T) := by
  unfold GT
  have hi := ho.1
  obtain ⟨cap, hcap, hN⟩ := h
  have hg := hg cap hcap
  unfold GT at hg
  cases o with
  | nil =>
    · by_cases h0 : ((i) : Int) < (aks.length)
      · by_cases h1 : (((askAt aks i).2) : Int) < (0)
        · exact ab ho
        · by_cases h2 : (((askAt aks i).2) : Int) ≥ (8)
          · exact ab ho
          · by_cases h3 : (((askAt aks i).1) : Int) = (1)
            · by_cases h4 : (((md) (askAt aks i).2.toNat) : Int) = (0)
              · refine @goodS_seg (dT s md opf aks cp i n L c2) (denG s (n8 md ++ n8 opf ++ [iv (i : Nat), iv ((i + 1 : Nat) : Int), iv (aks.length : Nat), iv (askAt aks i).1, iv (askAt aks i).2, iv (n : Nat), iv ((n + 1 : Nat) : Int), iv (L.length : Nat), iv ((md) (askAt aks i).2.toNat)] ++ tv t) rfl [(lineV 1 s.line), .slice (some ⟨5, 0, none⟩) aks.length cp, pt 5 (i * 2), .slice (some ⟨7, 0, none⟩) L.length c2, pt 7 0, pt 4 (1 + (askAt aks i).2.toNat), lineV 7 t.line] rfl [encL s.line, encL aks, encOrds L, encL t.line] (rows4 (encL_plain _) (encL_plain _) (encOrds_plain _) (encL_plain _))) Try.prog mixed ⟨[], [], []⟩ [] trivial trivial trivial trivial 100 0 6 _ _ _ _ _ [(0, 0), (1, 1), (4, 4), (5, 5)] [] kT1 .normal fT1 217 6 (hT1 T) (by kernel_rfl) (by kernel_rfl) (by kernel_rfl) ?_
                exact @goodS_seg (denG s (n8 md ++ n8 opf ++ [iv (i : Nat), iv ((i + 1 : Nat) : Int), iv (aks.length : Nat), iv (askAt aks i).1, iv (askAt aks i).2, iv (n : Nat), iv ((n + 1 : Nat) : Int), iv (L.length : Nat), iv ((md) (askAt aks i).2.toNat)] ++ tv t) rfl [(lineV 1 s.line), .slice (some ⟨5, 0, none⟩) aks.length cp, pt 5 (i * 2), .slice (some ⟨7, 0, none⟩) L.length c2, pt 7 0, pt 4 (1 + (askAt aks i).2.toNat), lineV 7 t.line] rfl [encL s.line, encL aks, encOrds L, encL t.line] (rows4 (encL_plain _) (encL_plain _) (encOrds_plain _) (encL_plain _))) _ Try.prog mixed ⟨[(.len 55 (ch 1), sv 58), (.bin .lss 3 (sv 56) (sv 58), .bool true), (.ixa 55 (ch 1) (sv 56), ch 2), (.bin .lss 3 (sv 60) (iv 0), .bool false), (.bin .geq 3 (sv 60) (iv 8), .bool false), (.bin .eql 3 (sv 59) (iv 1), .bool true), (.ixa 57 (pt 4 1) (sv 60), ch 5), (.bin .eql 40 (sv 64) (iv 0), .bool true)], [⟨61, 2, 5, 1, .agg #[sv 59, sv 60]⟩], [([40, 1000000], { args := [ch 5], c := 7, hids := [(0, 1)], foots := [⟨4, 0, true, .row 59 (.lst (ndSy 0 40 48)) false, .row 59 (.lst (ndSy 0 40 48)) false⟩], news := [], res := sv 64 })]⟩ [(24, [(eC0 [pt 0 0, sv 60, iv 1] 7 [] 65 6 1 0 3)])] ⟨asLen u55 rfl (by kernel_rfl), qT (((i) : Int) < (aks.length)), asIxa u55 z61 rfl rfl (by omega) (by omega) rfl (by simp), qF ((((askAt aks i).2) : Int) < (0)), qF ((((askAt aks i).2) : Int) ≥ (8)), eT (((askAt aks i).1) : Int) (1), asIxArr u57 z40 rfl (by omega) (by omega) rfl (by omega), eT (((md) (askAt aks i).2.toNat) : Int) (0), trivial⟩ ⟨ld_agg a61 z61 rfl (ask_len hi) (ask_row hi) rfl (by kernel_rfl), trivial⟩ ⟨LdOk.mk2 (ld_md (md) (opf) (q := (askAt aks i).2.toNat) (by omega)) rfl (by kernel_rfl) (ndR_sub (md) (opf)) (by kernel_rfl), trivial⟩ ⟨oe hN, trivial⟩ 100 27 6 _ _ _ _ _ [(0, 0), (7, 1), (4, 4), (5, 5), (6, 6)] [] _ _ _ _ _ _ (by kernel_rfl) (by kernel_rfl) (by kernel_rfl) hg
              · exact ab ho
            · by_cases h5 : (((askAt aks i).1) : Int) = (2)
              · by_cases h6 : (((md) (askAt aks i).2.toNat) : Int) = (2)
                · exact ab ho
                · exact ab ho
              · by_cases h7 : (((askAt aks i).1) : Int) = (3)
                · exact ab ho
                · by_cases h8 : (((askAt aks i).1) : Int) = (4)
                  · by_cases h9 : (((md) (askAt aks i).2.toNat) : Int) = (0)
                    · exact ab ho
                    · exact ab ho
                  · exact ab ho
      · exact ab ho
  | cons x l =>
    · by_cases h0 : ((i) : Int) < (aks.length)
      · by_cases h1 : (((askAt aks i).2) : Int) < (0)
        · exact ab ho
        · by_cases h2 : (((askAt aks i).2) : Int) ≥ (8)
          · exact ab ho
          · by_cases h3 : (((askAt aks i).1) : Int) = (1)
            · by_cases h4 : (((md) (askAt aks i).2.toNat) : Int) = (0)
              · refine @goodS_seg (dT s md opf aks cp i n L c2) (denG s (n8 md ++ n8 opf ++ [iv (i : Nat), iv ((i + 1 : Nat) : Int), iv (aks.length : Nat), iv (askAt aks i).1, iv (askAt aks i).2, iv (n : Nat), iv ((n + 1 : Nat) : Int), iv (L.length : Nat), iv ((md) (askAt aks i).2.toNat)] ++ tv t) rfl [(lineV 1 s.line), .slice (some ⟨5, 0, none⟩) aks.length cp, pt 5 (i * 2), .slice (some ⟨7, 0, none⟩) L.length c2, pt 7 0, pt 4 (1 + (askAt aks i).2.toNat), lineV 7 t.line, .slice (some ⟨8, 0, none⟩) (x :: l).length cap] rfl [encL s.line, encL aks, encOrds L, encL t.line, encOrds (x :: l)] (rowsK (by repeat first | exact PL.nil | refine PL.cons ?_ ?_ | exact encL_plain _ | exact encOrds_plain _))) Try.prog mixed ⟨[], [], []⟩ [] trivial trivial trivial trivial 100 0 6 _ _ _ _ _ [(0, 0), (1, 1), (4, 4), (5, 5)] [] kT1 .normal fT1 217 6 (hT1 T) (by kernel_rfl) (by kernel_rfl) (by kernel_rfl) ?_
                exact @goodS_seg (denG s (n8 md ++ n8 opf ++ [iv (i : Nat), iv ((i + 1 : Nat) : Int), iv (aks.length : Nat), iv (askAt aks i).1, iv (askAt aks i).2, iv (n : Nat), iv ((n + 1 : Nat) : Int), iv (L.length : Nat), iv ((md) (askAt aks i).2.toNat)] ++ tv t) rfl [(lineV 1 s.line), .slice (some ⟨5, 0, none⟩) aks.length cp, pt 5 (i * 2), .slice (some ⟨7, 0, none⟩) L.length c2, pt 7 0, pt 4 (1 + (askAt aks i).2.toNat), lineV 7 t.line, .slice (some ⟨8, 0, none⟩) (x :: l).length cap] rfl [encL s.line, encL aks, encOrds L, encL t.line, encOrds (x :: l)] (rowsK (by repeat first | exact PL.nil | refine PL.cons ?_ ?_ | exact encL_plain _ | exact encOrds_plain _))) _ Try.prog mixed ⟨[(.len 55 (ch 1), sv 58), (.bin .lss 3 (sv 56) (sv 58), .bool true), (.ixa 55 (ch 1) (sv 56), ch 2), (.bin .lss 3 (sv 60) (iv 0), .bool false), (.bin .geq 3 (sv 60) (iv 8), .bool false), (.bin .eql 3 (sv 59) (iv 1), .bool true), (.ixa 57 (pt 4 1) (sv 60), ch 5), (.bin .eql 40 (sv 64) (iv 0), .bool true)], [⟨61, 2, 5, 1, .agg #[sv 59, sv 60]⟩], [([40, 1000000], { args := [ch 5], c := 7, hids := [(0, 1)], foots := [⟨4, 0, true, .row 59 (.lst (ndSy 0 40 48)) false, .row 59 (.lst (ndSy 0 40 48)) false⟩], news := [], res := sv 64 })]⟩ [(24, [(eC1 [pt 0 0, sv 60, iv 1] 7 [] 65 6 1 0 3 4 (ch 7))])] ⟨asLen u55 rfl (by kernel_rfl), qT (((i) : Int) < (aks.length)), asIxa u55 z61 rfl rfl (by omega) (by omega) rfl (by simp), qF ((((askAt aks i).2) : Int) < (0)), qF ((((askAt aks i).2) : Int) ≥ (8)), eT (((askAt aks i).1) : Int) (1), asIxArr u57 z40 rfl (by omega) (by omega) rfl (by omega), eT (((md) (askAt aks i).2.toNat) : Int) (0), trivial⟩ ⟨ld_agg a61 z61 rfl (ask_len hi) (ask_row hi) rfl (by kernel_rfl), trivial⟩ ⟨LdOk.mk2 (ld_md (md) (opf) (q := (askAt aks i).2.toNat) (by omega)) rfl (by kernel_rfl) (ndR_sub (md) (opf)) (by kernel_rfl), trivial⟩ ⟨oe hN, trivial⟩ 100 27 6 _ _ _ _ _ [(0, 0), (7, 1), (4, 4), (5, 5), (6, 6), (8, 7)] [] _ _ _ _ _ _ (by kernel_rfl) (by kernel_rfl) (by kernel_rfl) hg
              · exact ab ho
            · by_cases h5 : (((askAt aks i).1) : Int) = (2)
              · by_cases h6 : (((md) (askAt aks i).2.toNat) : Int) = (2)
                · exact ab ho
                · exact ab ho
              · by_cases h7 : (((askAt aks i).1) : Int) = (3)
                · exact ab ho
                · by_cases h8 : (((askAt aks i).1) : Int) = (4)
                  · by_cases h9 : (((md) (askAt aks i).2.toNat) : Int) = (0)
                    · exact ab ho
                    · exact ab ho
                  · exact ab ho
      · exact ab ho
theorem ask_2 (ho : i < aks.length ∧ (0 ≤ (askAt aks i).2 ∧ (askAt aks i).2 < 8) ∧ (askAt aks i).1 = 2 ∧ ¬ md (askAt aks i).2.toNat = 2) (h : MC 24 [.int .i64 (askAt aks i).2, .int .i64 2] s t o) (hg : ∀ c, CapOK o c → GT T aks (dT t md opf aks cp i 0 o c) (xT2 T o)) : GT T aks (dT s md opf aks cp i n L c2) (xT1 T) := by
  unfold GT
  have hi := ho.1
  obtain ⟨cap, hcap, hN⟩ := h
  have hg := hg cap hcap
  unfold GT at hg
  cases o with
  | nil =>
    · by_cases h0 : ((i) : Int) < (aks.length)
      · by_cases h1 : (((askAt aks i).2) : Int) < (0)
        · exact ab ho
        · by_cases h2 : (((askAt aks i).2) : Int) ≥ (8)
          · exact ab ho
          · by_cases h3 : (((askAt aks i).1) : Int) = (1)
            · by_cases h4 : (((md) (askAt aks i).2.toNat) : Int) = (0)
              · exact ab ho
              · exact ab ho
            · by_cases h5 : (((askAt aks i).1) : Int) = (2)
              · by_cases h6 : (((md) (askAt aks i).2.toNat) : Int) = (2)
                · exact ab ho
                · refine @goodS_seg (dT s md opf aks cp i n L c2) (denG s (n8 md ++ n8 opf ++ [iv (i : Nat), iv ((i + 1 : Nat) : Int), iv (aks.length : Nat), iv (askAt aks i).1, iv (askAt aks i).2, iv (n : Nat), iv ((n + 1 : Nat) : Int), iv (L.length : Nat), iv ((md) (askAt aks i).2.toNat)] ++ tv t) rfl [(lineV 1 s.line), .slice (some ⟨5, 0, none⟩) aks.length cp, pt 5 (i * 2), .slice (some ⟨7, 0, none⟩) L.length c2, pt 7 0, pt 4 (1 + (askAt aks i).2.toNat), lineV 7 t.line] rfl [encL s.line, encL aks, encOrds L, encL t.line] (rows4 (encL_plain _) (encL_plain _) (encOrds_plain _) (encL_plain _))) Try.prog mixed ⟨[], [], []⟩ [] trivial trivial trivial trivial 100 0 6 _ _ _ _ _ [(0, 0), (1, 1), (4, 4), (5, 5)] [] kT1 .normal fT1 217 6 (hT1 T) (by kernel_rfl) (by kernel_rfl) (by kernel_rfl) ?_
                  exact @goodS_seg (denG s (n8 md ++ n8 opf ++ [iv (i : Nat), iv ((i + 1 : Nat) : Int), iv (aks.length : Nat), iv (askAt aks i).1, iv (askAt aks i).2, iv (n : Nat), iv ((n + 1 : Nat) : Int), iv (L.length : Nat), iv ((md) (askAt aks i).2.toNat)] ++ tv t) rfl [(lineV 1 s.line), .slice (some ⟨5, 0, none⟩) aks.length cp, pt 5 (i * 2), .slice (some ⟨7, 0, none⟩) L.length c2, pt 7 0, pt 4 (1 + (askAt aks i).2.toNat), lineV 7 t.line] rfl [encL s.line, encL aks, encOrds L, encL t.line] (rows4 (encL_plain _) (encL_plain _) (encOrds_plain _) (encL_plain _))) _ Try.prog mixed ⟨[(.len 55 (ch 1), sv 58), (.bin .lss 3 (sv 56) (sv 58), .bool true), (.ixa 55 (ch 1) (sv 56), ch 2), (.bin .lss 3 (sv 60) (iv 0), .bool false), (.bin .geq 3 (sv 60) (iv 8), .bool false), (.bin .eql 3 (sv 59) (iv 1), .bool false), (.bin .eql 3 (sv 59) (iv 2), .bool true), (.ixa 57 (pt 4 1) (sv 60), ch 5), (.bin .neq 40 (sv 64) (iv 2), .bool true)], [⟨61, 2, 5, 1, .agg #[sv 59, sv 60]⟩], [([40, 1000000], { args := [ch 5], c := 7, hids := [(0, 1)], foots := [⟨4, 0, true, .row 59 (.lst (ndSy 0 40 48)) false, .row 59 (.lst (ndSy 0 40 48)) false⟩], news := [], res := sv 64 })]⟩ [(24, [(eC0 [pt 0 0, sv 60, iv 2] 7 [] 65 6 1 0 3)])] ⟨asLen u55 rfl (by kernel_rfl), qT (((i) : Int) < (aks.length)), asIxa u55 z61 rfl rfl (by omega) (by omega) rfl (by simp), qF ((((askAt aks i).2) : Int) < (0)), qF ((((askAt aks i).2) : Int) ≥ (8)), eF (((askAt aks i).1) : Int) (1), eT (((askAt aks i).1) : Int) (2), asIxArr u57 z40 rfl (by omega) (by omega) rfl (by omega), nT (((md) (askAt aks i).2.toNat) : Int) (2), trivial⟩ ⟨ld_agg a61 z61 rfl (ask_len hi) (ask_row hi) rfl (by kernel_rfl), trivial⟩ ⟨LdOk.mk2 (ld_md (md) (opf) (q := (askAt aks i).2.toNat) (by omega)) rfl (by kernel_rfl) (ndR_sub (md) (opf)) (by kernel_rfl), trivial⟩ ⟨oe hN, trivial⟩ 100 27 6 _ _ _ _ _ [(0, 0), (7, 1), (4, 4), (5, 5), (6, 6)] [] _ _ _ _ _ _ (by kernel_rfl) (by kernel_rfl) (by kernel_rfl) hg
              · by_cases h7 : (((askAt aks i).1) : Int) = (3)
                · exact ab ho
                · by_cases h8 : (((askAt aks i).1) : Int) = (4)
                  · by_cases h9 : (((md) (askAt aks i).2.toNat) : Int) = (0)
                    · exact ab ho
                    · exact ab ho
                  · exact ab ho
      · exact ab ho
  | cons x l =>
    · by_cases h0 : ((i) : Int) < (aks.length)
      · by_cases h1 : (((askAt aks i).2) : Int) < (0)
        · exact ab ho
        · by_cases h2 : (((askAt aks i).2) : Int) ≥ (8)
          · exact ab ho
          · by_cases h3 : (((askAt aks i).1) : Int) = (1)
            · by_cases h4 : (((md) (askAt aks i).2.toNat) : Int) = (0)
              · exact ab ho
              · exact ab ho
            · by_cases h5 : (((askAt aks i).1) : Int) = (2)
              · by_cases h6 : (((md) (askAt aks i).2.toNat) : Int) = (2)
                · exact ab ho
                · refine @goodS_seg (dT s md opf aks cp i n L c2) (denG s (n8 md ++ n8 opf ++ [iv (i : Nat), iv ((i + 1 : Nat) : Int), iv (aks.length : Nat), iv (askAt aks i).1, iv (askAt aks i).2, iv (n : Nat), iv ((n + 1 : Nat) : Int), iv (L.length : Nat), iv ((md) (askAt aks i).2.toNat)] ++ tv t) rfl [(lineV 1 s.line), .slice (some ⟨5, 0, none⟩) aks.length cp, pt 5 (i * 2), .slice (some ⟨7, 0, none⟩) L.length c2, pt 7 0, pt 4 (1 + (askAt aks i).2.toNat), lineV 7 t.line, .slice (some ⟨8, 0, none⟩) (x :: l).length cap] rfl [encL s.line, encL aks, encOrds L, encL t.line, encOrds (x :: l)] (rowsK (by repeat first | exact PL.nil | refine PL.cons ?_ ?_ | exact encL_plain _ | exact encOrds_plain _))) Try.prog mixed ⟨[], [], []⟩ [] trivial trivial trivial trivial 100 0 6 _ _ _ _ _ [(0, 0), (1, 1), (4, 4), (5, 5)] [] kT1 .normal fT1 217 6 (hT1 T) (by kernel_rfl) (by kernel_rfl) (by kernel_rfl) ?_
                  exact @goodS_seg (denG s (n8 md ++ n8 opf ++ [iv (i : Nat), iv ((i + 1 : Nat) : Int), iv (aks.length : Nat), iv (askAt aks i).1, iv (askAt aks i).2, iv (n : Nat), iv ((n + 1 : Nat) : Int), iv (L.length : Nat), iv ((md) (askAt aks i).2.toNat)] ++ tv t) rfl [(lineV 1 s.line), .slice (some ⟨5, 0, none⟩) aks.length cp, pt 5 (i * 2), .slice (some ⟨7, 0, none⟩) L.length c2, pt 7 0, pt 4 (1 + (askAt aks i).2.toNat), lineV 7 t.line, .slice (some ⟨8, 0, none⟩) (x :: l).length cap] rfl [encL s.line, encL aks, encOrds L, encL t.line, encOrds (x :: l)] (rowsK (by repeat first | exact PL.nil | refine PL.cons ?_ ?_ | exact encL_plain _ | exact encOrds_plain _))) _ Try.prog mixed ⟨[(.len 55 (ch 1), sv 58), (.bin .lss 3 (sv 56) (sv 58), .bool true), (.ixa 55 (ch 1) (sv 56), ch 2), (.bin .lss 3 (sv 60) (iv 0), .bool false), (.bin .geq 3 (sv 60) (iv 8), .bool false), (.bin .eql 3 (sv 59) (iv 1), .bool false), (.bin .eql 3 (sv 59) (iv 2), .bool true), (.ixa 57 (pt 4 1) (sv 60), ch 5), (.bin .neq 40 (sv 64) (iv 2), .bool true)], [⟨61, 2, 5, 1, .agg #[sv 59, sv 60]⟩], [([40, 1000000], { args := [ch 5], c := 7, hids := [(0, 1)], foots := [⟨4, 0, true, .row 59 (.lst (ndSy 0 40 48)) false, .row 59 (.lst (ndSy 0 40 48)) false⟩], news := [], res := sv 64 })]⟩ [(24, [(eC1 [pt 0 0, sv 60, iv 2] 7 [] 65 6 1 0 3 4 (ch 7))])] ⟨asLen u55 rfl (by kernel_rfl), qT (((i) : Int) < (aks.length)), asIxa u55 z61 rfl rfl (by omega) (by omega) rfl (by simp), qF ((((askAt aks i).2) : Int) < (0)), qF ((((askAt aks i).2) : Int) ≥ (8)), eF (((askAt aks i).1) : Int) (1), eT (((askAt aks i).1) : Int) (2), asIxArr u57 z40 rfl (by omega) (by omega) rfl (by omega), nT (((md) (askAt aks i).2.toNat) : Int) (2), trivial⟩ ⟨ld_agg a61 z61 rfl (ask_len hi) (ask_row hi) rfl (by kernel_rfl), trivial⟩ ⟨LdOk.mk2 (ld_md (md) (opf) (q := (askAt aks i).2.toNat) (by omega)) rfl (by kernel_rfl) (ndR_sub (md) (opf)) (by kernel_rfl), trivial⟩ ⟨oe hN, trivial⟩ 100 27 6 _ _ _ _ _ [(0, 0), (7, 1), (4, 4), (5, 5), (6, 6), (8, 7)] [] _ _ _ _ _ _ (by kernel_rfl) (by kernel_rfl) (by kernel_rfl) hg
              · by_cases h7 : (((askAt aks i).1) : Int) = (3)
                · exact ab ho
                · by_cases h8 : (((askAt aks i).1) : Int) = (4)
                  · by_cases h9 : (((md) (askAt aks i).2.toNat) : Int) = (0)
                    · exact ab ho
                    · exact ab ho
                  · exact ab ho
      · exact ab ho
theorem ask_3 (ho : i < aks.length ∧ (0 ≤ (askAt aks i).2 ∧ (askAt aks i).2 < 8) ∧ (askAt aks i).1 = 3) (h : MC 25 [.int .i64 (askAt aks i).2] s t o) (hg : ∀ c, CapOK o c → GT T aks (dT t md opf aks cp i 0 o c) (xT2 T o)) : GT T aks (dT s md opf aks cp i n L c2) (xT1 T) := by
  unfold GT
  have hi := ho.1
  obtain ⟨cap, hcap, hN⟩ := h
  have hg := hg cap hcap
  unfold GT at hg
  cases o with
  | nil =>
    · by_cases h0 : ((i) : Int) < (aks.length)
      · by_cases h1 : (((askAt aks i).2) : Int) < (0)
        · exact ab ho
        · by_cases h2 : (((askAt aks i).2) : Int) ≥ (8)
          · exact ab ho
          · by_cases h3 : (((askAt aks i).1) : Int) = (1)
            · by_cases h4 : (((md) (askAt aks i).2.toNat) : Int) = (0)
              · exact ab ho
              · exact ab ho
            · by_cases h5 : (((askAt aks i).1) : Int) = (2)
              · by_cases h6 : (((md) (askAt aks i).2.toNat) : Int) = (2)
                · exact ab ho
                · exact ab ho
              · by_cases h7 : (((askAt aks i).1) : Int) = (3)
                · refine @goodS_seg (dT s md opf aks cp i n L c2) (denG s (n8 md ++ n8 opf ++ [iv (i : Nat), iv ((i + 1 : Nat) : Int), iv (aks.length : Nat), iv (askAt aks i).1, iv (askAt aks i).2, iv (n : Nat), iv ((n + 1 : Nat) : Int), iv (L.length : Nat)] ++ tv t) rfl [(lineV 1 s.line), .slice (some ⟨5, 0, none⟩) aks.length cp, pt 5 (i * 2), .slice (some ⟨7, 0, none⟩) L.length c2, pt 7 0, lineV 7 t.line] rfl [encL s.line, encL aks, encOrds L, encL t.line] (rows4 (encL_plain _) (encL_plain _) (encOrds_plain _) (encL_plain _))) Try.prog mixed ⟨[], [], []⟩ [] trivial trivial trivial trivial 100 0 6 _ _ _ _ _ [(0, 0), (1, 1), (4, 4), (5, 5)] [] kT1 .normal fT1 217 6 (hT1 T) (by kernel_rfl) (by kernel_rfl) (by kernel_rfl) ?_
                  exact @goodS_seg (denG s (n8 md ++ n8 opf ++ [iv (i : Nat), iv ((i + 1 : Nat) : Int), iv (aks.length : Nat), iv (askAt aks i).1, iv (askAt aks i).2, iv (n : Nat), iv ((n + 1 : Nat) : Int), iv (L.length : Nat)] ++ tv t) rfl [(lineV 1 s.line), .slice (some ⟨5, 0, none⟩) aks.length cp, pt 5 (i * 2), .slice (some ⟨7, 0, none⟩) L.length c2, pt 7 0, lineV 7 t.line] rfl [encL s.line, encL aks, encOrds L, encL t.line] (rows4 (encL_plain _) (encL_plain _) (encOrds_plain _) (encL_plain _))) _ Try.prog mixed ⟨[(.len 55 (ch 1), sv 58), (.bin .lss 3 (sv 56) (sv 58), .bool true), (.ixa 55 (ch 1) (sv 56), ch 2), (.bin .lss 3 (sv 60) (iv 0), .bool false), (.bin .geq 3 (sv 60) (iv 8), .bool false), (.bin .eql 3 (sv 59) (iv 1), .bool false), (.bin .eql 3 (sv 59) (iv 2), .bool false), (.bin .eql 3 (sv 59) (iv 3), .bool true)], [⟨61, 2, 5, 1, .agg #[sv 59, sv 60]⟩], []⟩ [(25, [(eC0 [pt 0 0, sv 60] 7 [] 64 5 1 0 3)])] ⟨asLen u55 rfl (by kernel_rfl), qT (((i) : Int) < (aks.length)), asIxa u55 z61 rfl rfl (by omega) (by omega) rfl (by simp), qF ((((askAt aks i).2) : Int) < (0)), qF ((((askAt aks i).2) : Int) ≥ (8)), eF (((askAt aks i).1) : Int) (1), eF (((askAt aks i).1) : Int) (2), eT (((askAt aks i).1) : Int) (3), trivial⟩ ⟨ld_agg a61 z61 rfl (ask_len hi) (ask_row hi) rfl (by kernel_rfl), trivial⟩ trivial ⟨oe hN, trivial⟩ 100 27 6 _ _ _ _ _ [(0, 0), (7, 1), (4, 4), (5, 5), (6, 6)] [] _ _ _ _ _ _ (by kernel_rfl) (by kernel_rfl) (by kernel_rfl) hg
                · by_cases h8 : (((askAt aks i).1) : Int) = (4)
                  · by_cases h9 : (((md) (askAt aks i).2.toNat) : Int) = (0)
                    · exact ab ho
                    · exact ab ho
                  · exact ab ho
      · exact ab ho
  | cons x l =>
    · by_cases h0 : ((i) : Int) < (aks.length)
      · by_cases h1 : (((askAt aks i).2) : Int) < (0)
        · exact ab ho
        · by_cases h2 : (((askAt aks i).2) : Int) ≥ (8)
          · exact ab ho
          · by_cases h3 : (((askAt aks i).1) : Int) = (1)
            · by_cases h4 : (((md) (askAt aks i).2.toNat) : Int) = (0)
              · exact ab ho
              · exact ab ho
            · by_cases h5 : (((askAt aks i).1) : Int) = (2)
              · by_cases h6 : (((md) (askAt aks i).2.toNat) : Int) = (2)
                · exact ab ho
                · exact ab ho
              · by_cases h7 : (((askAt aks i).1) : Int) = (3)
                · refine @goodS_seg (dT s md opf aks cp i n L c2) (denG s (n8 md ++ n8 opf ++ [iv (i : Nat), iv ((i + 1 : Nat) : Int), iv (aks.length : Nat), iv (askAt aks i).1, iv (askAt aks i).2, iv (n : Nat), iv ((n + 1 : Nat) : Int), iv (L.length : Nat)] ++ tv t) rfl [(lineV 1 s.line), .slice (some ⟨5, 0, none⟩) aks.length cp, pt 5 (i * 2), .slice (some ⟨7, 0, none⟩) L.length c2, pt 7 0, lineV 7 t.line, .slice (some ⟨8, 0, none⟩) (x :: l).length cap] rfl [encL s.line, encL aks, encOrds L, encL t.line, encOrds (x :: l)] (rowsK (by repeat first | exact PL.nil | refine PL.cons ?_ ?_ | exact encL_plain _ | exact encOrds_plain _))) Try.prog mixed ⟨[], [], []⟩ [] trivial trivial trivial trivial 100 0 6 _ _ _ _ _ [(0, 0), (1, 1), (4, 4), (5, 5)] [] kT1 .normal fT1 217 6 (hT1 T) (by kernel_rfl) (by kernel_rfl) (by kernel_rfl) ?_
                  exact @goodS_seg (denG s (n8 md ++ n8 opf ++ [iv (i : Nat), iv ((i + 1 : Nat) : Int), iv (aks.length : Nat), iv (askAt aks i).1, iv (askAt aks i).2, iv (n : Nat), iv ((n + 1 : Nat) : Int), iv (L.length : Nat)] ++ tv t) rfl [(lineV 1 s.line), .slice (some ⟨5, 0, none⟩) aks.length cp, pt 5 (i * 2), .slice (some ⟨7, 0, none⟩) L.length c2, pt 7 0, lineV 7 t.line, .slice (some ⟨8, 0, none⟩) (x :: l).length cap] rfl [encL s.line, encL aks, encOrds L, encL t.line, encOrds (x :: l)] (rowsK (by repeat first | exact PL.nil | refine PL.cons ?_ ?_ | exact encL_plain _ | exact encOrds_plain _))) _ Try.prog mixed ⟨[(.len 55 (ch 1), sv 58), (.bin .lss 3 (sv 56) (sv 58), .bool true), (.ixa 55 (ch 1) (sv 56), ch 2), (.bin .lss 3 (sv 60) (iv 0), .bool false), (.bin .geq 3 (sv 60) (iv 8), .bool false), (.bin .eql 3 (sv 59) (iv 1), .bool false), (.bin .eql 3 (sv 59) (iv 2), .bool false), (.bin .eql 3 (sv 59) (iv 3), .bool true)], [⟨61, 2, 5, 1, .agg #[sv 59, sv 60]⟩], []⟩ [(25, [(eC1 [pt 0 0, sv 60] 7 [] 64 5 1 0 3 4 (ch 6))])] ⟨asLen u55 rfl (by kernel_rfl), qT (((i) : Int) < (aks.length)), asIxa u55 z61 rfl rfl (by omega) (by omega) rfl (by simp), qF ((((askAt aks i).2) : Int) < (0)), qF ((((askAt aks i).2) : Int) ≥ (8)), eF (((askAt aks i).1) : Int) (1), eF (((askAt aks i).1) : Int) (2), eT (((askAt aks i).1) : Int) (3), trivial⟩ ⟨ld_agg a61 z61 rfl (ask_len hi) (ask_row hi) rfl (by kernel_rfl), trivial⟩ trivial ⟨oe hN, trivial⟩ 100 27 6 _ _ _ _ _ [(0, 0), (7, 1), (4, 4), (5, 5), (6, 6), (8, 7)] [] _ _ _ _ _ _ (by kernel_rfl) (by kernel_rfl) (by kernel_rfl) hg
                · by_cases h8 : (((askAt aks i).1) : Int) = (4)
                  · by_cases h9 : (((md) (askAt aks i).2.toNat) : Int) = (0)
                    · exact ab ho
                    · exact ab ho
                  · exact ab ho
      · exact ab ho
theorem ask_4 (ho : i < aks.length ∧ (0 ≤ (askAt aks i).2 ∧ (askAt aks i).2 < 8) ∧ (askAt aks i).1 = 4 ∧ ¬ md (askAt aks i).2.toNat = 0) (h : MC 26 [.int .i64 (askAt aks i).2, .int .i64 (opf (askAt aks i).2.toNat)] s t o) (hg : ∀ c, CapOK o c → GT T aks (dT t (upd md (askAt aks i).2.toNat 0) opf aks cp i 0 o c) (xT2 T o)) : GT T aks (dT s md opf aks cp i n L c2) (xT1 T) := by
  unfold GT
  have hi := ho.1
  obtain ⟨cap, hcap, hN⟩ := h
  have hg := hg cap hcap
  unfold GT at hg
  cases o with
  | nil =>
    · by_cases h0 : ((i) : Int) < (aks.length)
      · by_cases h1 : (((askAt aks i).2) : Int) < (0)
        · exact ab ho
        · by_cases h2 : (((askAt aks i).2) : Int) ≥ (8)
          · exact ab ho
          · by_cases h3 : (((askAt aks i).1) : Int) = (1)
            · by_cases h4 : (((md) (askAt aks i).2.toNat) : Int) = (0)
              · exact ab ho
              · exact ab ho
            · by_cases h5 : (((askAt aks i).1) : Int) = (2)
              · by_cases h6 : (((md) (askAt aks i).2.toNat) : Int) = (2)
                · exact ab ho
                · exact ab ho
              · by_cases h7 : (((askAt aks i).1) : Int) = (3)
                · exact ab ho
                · by_cases h8 : (((askAt aks i).1) : Int) = (4)
                  · by_cases h9 : (((md) (askAt aks i).2.toNat) : Int) = (0)
                    · exact ab ho
                    · refine @goodS_seg (dT s md opf aks cp i n L c2) (denG s (n8 md ++ n8 opf ++ [iv (i : Nat), iv ((i + 1 : Nat) : Int), iv (aks.length : Nat), iv (askAt aks i).1, iv (askAt aks i).2, iv (n : Nat), iv ((n + 1 : Nat) : Int), iv (L.length : Nat), iv ((md) (askAt aks i).2.toNat)] ++ n8 (upd (md) (askAt aks i).2.toNat (0)) ++ [iv ((opf) (askAt aks i).2.toNat)] ++ tv t) rfl [(lineV 1 s.line), .slice (some ⟨5, 0, none⟩) aks.length cp, pt 5 (i * 2), .slice (some ⟨7, 0, none⟩) L.length c2, pt 7 0, pt 4 (1 + (askAt aks i).2.toNat), pt 4 (9 + (askAt aks i).2.toNat), lineV 7 t.line] rfl [encL s.line, encL aks, encOrds L, encL t.line] (rows4 (encL_plain _) (encL_plain _) (encOrds_plain _) (encL_plain _))) Try.prog mixed ⟨[], [], []⟩ [] trivial trivial trivial trivial 100 0 6 _ _ _ _ _ [(0, 0), (1, 1), (4, 4), (5, 5)] [] kT1 .normal fT1 217 6 (hT1 T) (by kernel_rfl) (by kernel_rfl) (by kernel_rfl) ?_
                      exact @goodS_seg (denG s (n8 md ++ n8 opf ++ [iv (i : Nat), iv ((i + 1 : Nat) : Int), iv (aks.length : Nat), iv (askAt aks i).1, iv (askAt aks i).2, iv (n : Nat), iv ((n + 1 : Nat) : Int), iv (L.length : Nat), iv ((md) (askAt aks i).2.toNat)] ++ n8 (upd (md) (askAt aks i).2.toNat (0)) ++ [iv ((opf) (askAt aks i).2.toNat)] ++ tv t) rfl [(lineV 1 s.line), .slice (some ⟨5, 0, none⟩) aks.length cp, pt 5 (i * 2), .slice (some ⟨7, 0, none⟩) L.length c2, pt 7 0, pt 4 (1 + (askAt aks i).2.toNat), pt 4 (9 + (askAt aks i).2.toNat), lineV 7 t.line] rfl [encL s.line, encL aks, encOrds L, encL t.line] (rows4 (encL_plain _) (encL_plain _) (encOrds_plain _) (encL_plain _))) _ Try.prog mixed ⟨[(.len 55 (ch 1), sv 58), (.bin .lss 3 (sv 56) (sv 58), .bool true), (.ixa 55 (ch 1) (sv 56), ch 2), (.bin .lss 3 (sv 60) (iv 0), .bool false), (.bin .geq 3 (sv 60) (iv 8), .bool false), (.bin .eql 3 (sv 59) (iv 1), .bool false), (.bin .eql 3 (sv 59) (iv 2), .bool false), (.bin .eql 3 (sv 59) (iv 3), .bool false), (.bin .eql 3 (sv 59) (iv 4), .bool true), (.ixa 57 (pt 4 1) (sv 60), ch 5), (.bin .neq 40 (sv 64) (iv 0), .bool true), (.ixa 30 (pt 4 9) (sv 60), ch 6)], [⟨61, 2, 5, 1, .agg #[sv 59, sv 60]⟩], [([40, 1000000], { args := [ch 5], c := 7, hids := [(0, 1)], foots := [⟨4, 0, true, .row 59 (.lst (ndSy 0 40 48)) false, .row 59 (.lst (ndSy 0 40 48)) false⟩], news := [], res := sv 64 }), ([40, 1000001], { args := [ch 5, iv 0], c := 7, hids := [(0, 1)], foots := [⟨4, 0, false, .row 59 (.lst (ndSy 0 40 48)) false, .row 59 (.lst (ndSy 0 65 48)) false⟩], news := [], res := .bool false }), ([2, 1000000], { args := [ch 6], c := 7, hids := [(0, 1)], foots := [⟨4, 0, true, .row 59 (.lst (ndSy 0 65 48)) false, .row 59 (.lst (ndSy 0 65 48)) false⟩], news := [], res := sv 73 })]⟩ [(26, [(eC0 [pt 0 0, sv 60, sv 73] 7 [] 74 7 1 0 3)])] ⟨asLen u55 rfl (by kernel_rfl), qT (((i) : Int) < (aks.length)), asIxa u55 z61 rfl rfl (by omega) (by omega) rfl (by simp), qF ((((askAt aks i).2) : Int) < (0)), qF ((((askAt aks i).2) : Int) ≥ (8)), eF (((askAt aks i).1) : Int) (1), eF (((askAt aks i).1) : Int) (2), eF (((askAt aks i).1) : Int) (3), eT (((askAt aks i).1) : Int) (4), asIxArr u57 z40 rfl (by omega) (by omega) rfl (by omega), nT (((md) (askAt aks i).2.toNat) : Int) (0), asIxArr u30 z2 rfl (by omega) (by omega) rfl (by omega), trivial⟩ ⟨ld_agg a61 z61 rfl (ask_len hi) (ask_row hi) rfl (by kernel_rfl), trivial⟩ ⟨LdOk.mk2 (ld_md (md) (opf) (q := (askAt aks i).2.toNat) (by omega)) rfl (by kernel_rfl) (ndR_sub (md) (opf)) (by kernel_rfl), st (st_md (md) (opf) (q := (askAt aks i).2.toNat) (by omega) (0)), LdOk.mk2 (ld_no (upd (md) (askAt aks i).2.toNat (0)) (opf) (q := (askAt aks i).2.toNat) (by omega)) rfl (by kernel_rfl) (ndR_sub (upd (md) (askAt aks i).2.toNat (0)) (opf)) (by kernel_rfl), trivial⟩ ⟨oe hN, trivial⟩ 100 27 6 _ _ _ _ _ [(0, 0), (7, 1), (4, 4), (5, 5), (6, 6)] [] _ _ _ _ _ _ (by kernel_rfl) (by kernel_rfl) (by kernel_rfl) hg
                  · exact ab ho
      · exact ab ho
  | cons x l =>
    · by_cases h0 : ((i) : Int) < (aks.length)
      · by_cases h1 : (((askAt aks i).2) : Int) < (0)
        · exact ab ho
        · by_cases h2 : (((askAt aks i).2) : Int) ≥ (8)
          · exact ab ho
          · by_cases h3 : (((askAt aks i).1) : Int) = (1)
            · by_cases h4 : (((md) (askAt aks i).2.toNat) : Int) = (0)
              · exact ab ho
              · exact ab ho
            · by_cases h5 : (((askAt aks i).1) : Int) = (2)
              · by_cases h6 : (((md) (askAt aks i).2.toNat) : Int) = (2)
                · exact ab ho
                · exact ab ho
              · by_cases h7 : (((askAt aks i).1) : Int) = (3)
                · exact ab ho
                · by_cases h8 : (((askAt aks i).1) : Int) = (4)
                  · by_cases h9 : (((md) (askAt aks i).2.toNat) : Int) = (0)
                    · exact ab ho
                    · refine @goodS_seg (dT s md opf aks cp i n L c2) (denG s (n8 md ++ n8 opf ++ [iv (i : Nat), iv ((i + 1 : Nat) : Int), iv (aks.length : Nat), iv (askAt aks i).1, iv (askAt aks i).2, iv (n : Nat), iv ((n + 1 : Nat) : Int), iv (L.length : Nat), iv ((md) (askAt aks i).2.toNat)] ++ n8 (upd (md) (askAt aks i).2.toNat (0)) ++ [iv ((opf) (askAt aks i).2.toNat)] ++ tv t) rfl [(lineV 1 s.line), .slice (some ⟨5, 0, none⟩) aks.length cp, pt 5 (i * 2), .slice (some ⟨7, 0, none⟩) L.length c2, pt 7 0, pt 4 (1 + (askAt aks i).2.toNat), pt 4 (9 + (askAt aks i).2.toNat), lineV 7 t.line, .slice (some ⟨8, 0, none⟩) (x :: l).length cap] rfl [encL s.line, encL aks, encOrds L, encL t.line, encOrds (x :: l)] (rowsK (by repeat first | exact PL.nil | refine PL.cons ?_ ?_ | exact encL_plain _ | exact encOrds_plain _))) Try.prog mixed ⟨[], [], []⟩ [] trivial trivial trivial trivial 100 0 6 _ _ _ _ _ [(0, 0), (1, 1), (4, 4), (5, 5)] [] kT1 .normal fT1 217 6 (hT1 T) (by kernel_rfl) (by kernel_rfl) (by kernel_rfl) ?_
                      exact @goodS_seg (denG s (n8 md ++ n8 opf ++ [iv (i : Nat), iv ((i + 1 : Nat) : Int), iv (aks.length : Nat), iv (askAt aks i).1, iv (askAt aks i).2, iv (n : Nat), iv ((n + 1 : Nat) : Int), iv (L.length : Nat), iv ((md) (askAt aks i).2.toNat)] ++ n8 (upd (md) (askAt aks i).2.toNat (0)) ++ [iv ((opf) (askAt aks i).2.toNat)] ++ tv t) rfl [(lineV 1 s.line), .slice (some ⟨5, 0, none⟩) aks.length cp, pt 5 (i * 2), .slice (some ⟨7, 0, none⟩) L.length c2, pt 7 0, pt 4 (1 + (askAt aks i).2.toNat), pt 4 (9 + (askAt aks i).2.toNat), lineV 7 t.line, .slice (some ⟨8, 0, none⟩) (x :: l).length cap] rfl [encL s.line, encL aks, encOrds L, encL t.line, encOrds (x :: l)] (rowsK (by repeat first | exact PL.nil | refine PL.cons ?_ ?_ | exact encL_plain _ | exact encOrds_plain _))) _ Try.prog mixed ⟨[(.len 55 (ch 1), sv 58), (.bin .lss 3 (sv 56) (sv 58), .bool true), (.ixa 55 (ch 1) (sv 56), ch 2), (.bin .lss 3 (sv 60) (iv 0), .bool false), (.bin .geq 3 (sv 60) (iv 8), .bool false), (.bin .eql 3 (sv 59) (iv 1), .bool false), (.bin .eql 3 (sv 59) (iv 2), .bool false), (.bin .eql 3 (sv 59) (iv 3), .bool false), (.bin .eql 3 (sv 59) (iv 4), .bool true), (.ixa 57 (pt 4 1) (sv 60), ch 5), (.bin .neq 40 (sv 64) (iv 0), .bool true), (.ixa 30 (pt 4 9) (sv 60), ch 6)], [⟨61, 2, 5, 1, .agg #[sv 59, sv 60]⟩], [([40, 1000000], { args := [ch 5], c := 7, hids := [(0, 1)], foots := [⟨4, 0, true, .row 59 (.lst (ndSy 0 40 48)) false, .row 59 (.lst (ndSy 0 40 48)) false⟩], news := [], res := sv 64 }), ([40, 1000001], { args := [ch 5, iv 0], c := 7, hids := [(0, 1)], foots := [⟨4, 0, false, .row 59 (.lst (ndSy 0 40 48)) false, .row 59 (.lst (ndSy 0 65 48)) false⟩], news := [], res := .bool false }), ([2, 1000000], { args := [ch 6], c := 7, hids := [(0, 1)], foots := [⟨4, 0, true, .row 59 (.lst (ndSy 0 65 48)) false, .row 59 (.lst (ndSy 0 65 48)) false⟩], news := [], res := sv 73 })]⟩ [(26, [(eC1 [pt 0 0, sv 60, sv 73] 7 [] 74 7 1 0 3 4 (ch 8))])] ⟨asLen u55 rfl (by kernel_rfl), qT (((i) : Int) < (aks.length)), asIxa u55 z61 rfl rfl (by omega) (by omega) rfl (by simp), qF ((((askAt aks i).2) : Int) < (0)), qF ((((askAt aks i).2) : Int) ≥ (8)), eF (((askAt aks i).1) : Int) (1), eF (((askAt aks i).1) : Int) (2), eF (((askAt aks i).1) : Int) (3), eT (((askAt aks i).1) : Int) (4), asIxArr u57 z40 rfl (by omega) (by omega) rfl (by omega), nT (((md) (askAt aks i).2.toNat) : Int) (0), asIxArr u30 z2 rfl (by omega) (by omega) rfl (by omega), trivial⟩ ⟨ld_agg a61 z61 rfl (ask_len hi) (ask_row hi) rfl (by kernel_rfl), trivial⟩ ⟨LdOk.mk2 (ld_md (md) (opf) (q := (askAt aks i).2.toNat) (by omega)) rfl (by kernel_rfl) (ndR_sub (md) (opf)) (by kernel_rfl), st (st_md (md) (opf) (q := (askAt aks i).2.toNat) (by omega) (0)), LdOk.mk2 (ld_no (upd (md) (askAt aks i).2.toNat (0)) (opf) (q := (askAt aks i).2.toNat) (by omega)) rfl (by kernel_rfl) (ndR_sub (upd (md) (askAt aks i).2.toNat (0)) (opf)) (by kernel_rfl), trivial⟩ ⟨oe hN, trivial⟩ 100 27 6 _ _ _ _ _ [(0, 0), (7, 1), (4, 4), (5, 5), (6, 6), (8, 7)] [] _ _ _ _ _ _ (by kernel_rfl) (by kernel_rfl) (by kernel_rfl) hg
                  · exact ab ho
      · exact ab ho
end
end Go.Proofs.Ytjpgnjaobfbojaa

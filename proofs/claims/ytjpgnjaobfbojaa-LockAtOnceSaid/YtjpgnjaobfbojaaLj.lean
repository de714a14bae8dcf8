import Derived.Test.YtjpgnjaobfbojaaLi
namespace Go.Proofs.Ytjpgnjaobfbojaa
open Go.Sx
theorem does_len {w : Nd} {o : Ord} (hf : Fine w) (hk : (doesM w o).2.2 = true) : (doesM w o).2.1.length ≤ 940 := by
  have hop := hf.post.inv.op.1
  have hroom := hf.room
  have hl : w.l.line.length ≤ 900 := by omega
  obtain ⟨kind, to, op, mode, node, psn⟩ := o
  unfold doesM at hk ⊢
  by_cases h0 : (0 ≤ to ∧ to < 8) ∧ 0 ≤ node ∧ node < 8
  · simp only [h0, and_self, if_true] at hk ⊢
    by_cases h1 : kind = 1
    · simp only [h1, if_true]
      have := (got_ctr (n := to) (op := op) hf.post hf.room).2.len; omega
    · simp only [h1, if_false]
      by_cases h2 : kind = 2
      · simp only [h2, if_true]
        have := (got_ctr (n := node) (op := op) hf.post hf.room).2.len; omega
      · simp only [h2, if_false]
        by_cases h3 : kind = 3
        · simp only [h3, if_true]
          have := (got_ctr (n := node) (op := op) hf.post hf.room).2.len; omega
        · simp only [h3, if_false]
          by_cases h4 : kind = 4
          · simp only [h4, if_true]
            have := (gone_ctr (n := to) (op := op) hf.post hf.room).2.len; omega
          · simp only [h4, if_false]
            by_cases h5 : kind = 5
            · simp only [h5, if_true]
              have := (wrote_ctr (n := to) (op := w.op to.toNat) (psn := 1) hf.post hf.room).2.len; omega
            · simp only [h5, if_false]; simp
  · simp only [h0, if_false] at hk
    cases hk
variable {aks : List (Int × Int)} {cp : Nat} {T : TypeId}
theorem inner_run {i f : Nat} {w w' : Nd} {L : List Ord} (hr : Run f w L w') (hend : ∀ n c2, GT T aks (dT w'.l w'.mode w'.op aks cp i n [] c2) (xT2 T [])) : ∀ n c2, n + f ≤ 101 → L.length ≤ 1000 + 1000 * n → CapOK L c2 → GT T aks (dT w.l w.mode w.op aks cp i n L c2) (xT2 T L) := by
  induction hr with
  | done _ => intro n c2 _ _ _; exact hend n c2
  | @step f w w1 o t hf hk hr ih =>
    intro n c2 hn hL hc
    have hlen := does_len hf hk
    simp only [List.length_cons] at hL
    have hd := does_ctr hf hk
    rw [hk] at hd
    refine inner_step (by omega) hc (by rw [List.length_append]; omega) hd fun c hcc => ?_
    exact ih hend (n + 1) c (by omega) (by rw [List.length_append]; omega) hcc
theorem rounds (hlen : aks.length ≤ 100) : ∀ (k i : Nat) (w : Nd), i + k = aks.length → JN w → w.l.op ≤ i → ∀ n L c2, GT T aks (dT w.l w.mode w.op aks cp i n L c2) (xT1 T)
  | 0, i, w, hi, J, _, n, L, c2 => top_fin (by omega)
  | k + 1, i, w, hi, J, ho, n, L, c2 => by
    have hlt : i < aks.length := by omega
    by_cases hr : 0 ≤ (askAt aks i).2 ∧ (askAt aks i).2 < 8
    · obtain ⟨w', hrun, J', h1, h2, h3, h4⟩ := ask_ok (k := (askAt aks i).1) (n := (askAt aks i).2) J (by omega) hr
      have hline := J.idle.1
      have hb : w.l.op + w.l.line.length ≤ 900 := by rw [hline]; simp; omega
      have hend : ∀ n c2, GT T aks (dT w'.l w'.mode w'.op aks cp i n [] c2) (xT2 T []) := fun n c2 => round_end J' hlen hlt ⟨hr, h3, h4⟩ (rounds hlen k (i + 1) w' (by omega) J' (by omega) n [] c2)
      have go : ∀ {L2 : List Ord} {w2 : Nd}, begM w (askAt aks i).1 (askAt aks i).2 = (w2, L2) → L2.length ≤ 1000 → ∀ c, CapOK L2 c → GT T aks (dT w2.l w2.mode w2.op aks cp i 0 L2 c) (xT2 T L2) := fun {L2 w2} e hl c hc => by
        rw [e] at hrun
        exact inner_run hrun hend 0 c (by omega) (by omega) hc
      by_cases c1 : (askAt aks i).1 = 1 ∧ w.mode (askAt aks i).2.toNat = 0
      · have hm := want_ctr (n := (askAt aks i).2) (m := 1) J.post hb
        have hl2 := hm.2.len
        rw [hline] at hl2
        exact ask_1 ⟨hlt, hr, c1⟩ hm.1 fun c hc => go (by unfold begM; rw [if_pos c1.1, if_pos c1.2]) (by simp at hl2; omega) c hc
      · by_cases c2' : (askAt aks i).1 = 2 ∧ ¬ w.mode (askAt aks i).2.toNat = 2
        · have hm := want_ctr (n := (askAt aks i).2) (m := 2) J.post hb
          have hl2 := hm.2.len
          rw [hline] at hl2
          exact ask_2 ⟨hlt, hr, c2'⟩ hm.1 fun c hc => go (by unfold begM; rw [if_neg (by omega), if_pos c2'.1, if_neg c2'.2]) (by simp at hl2; omega) c hc
        · by_cases c3 : (askAt aks i).1 = 3
          · have hm := clean_ctr (n := (askAt aks i).2) J.post hb
            have hl2 := hm.2.len
            rw [hline] at hl2
            exact ask_3 ⟨hlt, hr, c3⟩ hm.1 fun c hc => go (by unfold begM; rw [if_neg (by omega), if_neg (by omega), if_pos c3]) (by simp at hl2; omega) c hc
          · by_cases c4 : (askAt aks i).1 = 4 ∧ ¬ w.mode (askAt aks i).2.toNat = 0
            · have hm := rel_ctr (n := (askAt aks i).2) (op := w.op (askAt aks i).2.toNat) J.post hb
              have hl2 := hm.2.len
              rw [hline] at hl2
              exact ask_4 ⟨hlt, hr, c4⟩ hm.1 fun c hc => go (by unfold begM; rw [if_neg (by omega), if_neg (by omega), if_neg (by omega), if_pos c4.1, if_neg c4.2]) (by simp at hl2; omega) c hc
            · have hno : ¬ (((askAt aks i).1 = 1 ∧ w.mode (askAt aks i).2.toNat = 0) ∨ ((askAt aks i).1 = 2 ∧ ¬ w.mode (askAt aks i).2.toNat = 2) ∨ (askAt aks i).1 = 3 ∨ ((askAt aks i).1 = 4 ∧ ¬ w.mode (askAt aks i).2.toNat = 0)) := by
                rintro (h | h | h | h)
                · exact c1 h
                · exact c2' h
                · exact c3 h
                · exact c4 h
              have e : begM w (askAt aks i).1 (askAt aks i).2 = (w, []) := by
                unfold begM
                by_cases e1 : (askAt aks i).1 = 1
                · rw [if_pos e1, if_neg fun h => c1 ⟨e1, h⟩]
                · rw [if_neg e1]
                  by_cases e2 : (askAt aks i).1 = 2
                  · rw [if_pos e2, if_pos (Decidable.byContradiction fun h => c2' ⟨e2, h⟩)]
                  · rw [if_neg e2, if_neg c3]
                    by_cases e4 : (askAt aks i).1 = 4
                    · rw [if_pos e4, if_pos (Decidable.byContradiction fun h => c4 ⟨e4, h⟩)]
                    · rw [if_neg e4]
              exact ask_none ⟨hlt, hr, hno⟩ (go e (by simp) 0 (.inr rfl))
    · exact top_out hlen ⟨hlt, hr⟩ (rounds hlen k (i + 1) w (by omega) J (by omega) n L c2)
theorem top_ctr (aks : List (Int × Int)) (cp : Nat) (T : TypeId) : Ctr Try.prog 6 [.slice (some ⟨5, 0, none⟩) aks.length cp] [(5, .row T (.lst (encL aks)) true)] (.bool true) [] := by
  refine Ctr.of_goodS (d := dT newS (fun _ => 0) (fun _ => 0) aks cp 0 0 [] 0) [] (c0 := 6) (A0 := hT0 T) (args0 := [ch 1]) (by kernel_rfl) (by kernel_rfl) (by kernel_rfl) ?_
  by_cases h : aks.length ≤ 100
  · have hg : GT T aks (dT newS (fun _ => 0) (fun _ => 0) aks cp 0 0 [] 0) (xT1 T) := rounds h aks.length 0 ⟨newS, fun _ => 0, fun _ => 0⟩ (by omega) new_J (by show (0 : Int) ≤ 0; omega) 0 [] 0
    unfold GT at hg
    exact @goodS_seg (dT newS (fun _ => 0) (fun _ => 0) aks cp 0 0 [] 0) _ Try.prog mixed ⟨[(.len 55 (ch 1), sv 58), (.bin .gtr 3 (sv 58) (.int .i64 100), .bool false)], [], []⟩ [(13, [eNew])] ⟨asLen u55 rfl (by kernel_rfl), asB (c := decide ((aks.length : Int) > 100)) (by kernel_rfl) (decide_eq_false (by omega)), trivial⟩ trivial trivial ⟨one_entry (entOK new_ctr rfl (by kernel_rfl)), trivial⟩ 100 13 6 _ _ _ _ _ [(6, 0), (7, 1), (8, 4), (5, 5)] [] _ _ _ _ _ _ (by kernel_rfl) (by kernel_rfl) (by kernel_rfl) hg
  · exact @goodS_fin (dT newS (fun _ => 0) (fun _ => 0) aks cp 0 0 [] 0) Try.prog mixed ⟨[(.len 55 (ch 1), sv 58), (.bin .gtr 3 (sv 58) (.int .i64 100), .bool true)], [], []⟩ [(12, [{ args := [], c := 6, foots := [], news := [], res := .bool true }])] ⟨asLen u55 rfl (by kernel_rfl), asB (c := decide ((aks.length : Int) > 100)) (by kernel_rfl) (decide_eq_true (by omega)), trivial⟩ trivial trivial ⟨one_entry (entOK known_ctr rfl (by kernel_rfl)), trivial⟩ 100 7 6 _ _ _ _ _ [] [] (by kernel_rfl) (by kernel_rfl)
end Go.Proofs.Ytjpgnjaobfbojaa
namespace Go.Proofs.Ytjpgnjaobfbojaa
open Go.Sx
theorem nil_ctr : Ctr Try.prog 6 [.slice none 0 0] [] (.bool true) [] :=
  Ctr.path mixed (denG newS [] rfl [lvN] rfl [] no_rows) ⟨[], [], []⟩ [] trivial trivial trivial trivial
    (N := 400) (c0 := 0) (A0 := []) (args0 := [.slice none 0 0]) (τ := []) (ros := []) (by kernel_rfl) (by kernel_rfl) (by kernel_rfl)
theorem zero_ctr : Ctr Try.prog 6 [.slice (some ⟨5, 0, none⟩) 0 0] [(5, .dead)] (.bool true) [(5, .dead)] :=
  Ctr.path mixed (denG newS [] rfl [lvN] rfl [] no_rows) ⟨[], [], []⟩ [] trivial trivial trivial trivial
    (N := 400) (c0 := 6) (A0 := [(5, .dead)]) (args0 := [.slice (some ⟨5, 0, none⟩) 0 0]) (τ := [(5, 5)]) (ros := []) (by kernel_rfl) (by kernel_rfl) (by kernel_rfl)
theorem fit_cap (e : EI) {cap : Nat} (h : e.cap = cap) : capOf e (if cap < HALF then cap else INF) = cap := by
  unfold capOf
  by_cases hc : cap < HALF
  · rw [if_pos hc, if_pos hc]
  · rw [if_neg hc, if_neg (by decide +kernel), Nat.sub_self, Nat.sub_zero]; exact h
theorem add_none {a : Addr} (h : a.spot = none) (n : Nat) : a.add n = ⟨a.block, a.off + n, none⟩ := by
  unfold Addr.add
  by_cases h0 : n = 0
  · rw [if_pos h0]; subst h0; cases a; simp only at h; subst h; rfl
  · rw [if_neg h0]
theorem cell_at {w : World} {a : Addr} {v : Value} (h : w.cell? a = some v) : a.spot = none ∧ ∃ cells T fz, w.heap[a.block]? = some (.cells cells T fz) ∧ cells[a.off]? = some v := by
  unfold World.cell? at h
  split at h
  · rename_i c T fz hc
    split at h
    · cases h
    · rename_i hs
      refine ⟨?_, c, T, fz, hc, h⟩
      cases ha : a.spot with
      | none => rfl
      | some x => rw [ha] at hs; exact absurd rfl hs
  · cases h
theorem call_slice {P : Program} {g : FuncId} {L : List Value} {len cap : Nat} {w : World} {a : Addr} {res : Value} {B : HL} (hl : len ≤ cap) {v0 : Value} (h0 : w.cell? a = some v0) (hL : ∀ k v, L[k]? = some v → w.cell? (a.add k) = some v) (hp : L.all plainS = true)
    (hc : ∀ T, Ctr P g [.slice (some ⟨5, 0, none⟩) len (if cap < HALF then cap else INF)] [(5, .row T (.lst L) true)] res B) :
    Calls P g #[.slice (some a) len cap] w fun e w' => (∃ v' E', e = .returned v' ∧ VR0 E' res v') ∧ Go.RowKit.Below w.heap.size w w' := by
  obtain ⟨hs, cells, T, fz, hb, _⟩ := cell_at h0
  let E : Env := fun i => if i = 5 then some ⟨a.block, a.off, cap⟩ else none
  have hE : ∀ {i : Nat} {e : EI}, E i = some e → i = 5 ∧ e = ⟨a.block, a.off, cap⟩ := fun {i e} h => by
    simp only [E] at h
    split at h
    · rename_i hi; cases h; exact ⟨hi, rfl⟩
    · cases h
  have hget : ∀ {i : Nat} {o : AObj}, (ofL [(5, .row T (.lst L) true)]).get i = some o → i = 5 ∧ o = .row T (.lst L) true := fun {i o} h => by
    rw [get_ofL] at h
    have := lkL_mem h
    simp only [List.mem_singleton, Prod.mk.injEq] at this
    exact this
  have hrow : HR0 P w (fun _ => False) E (ofL [(5, .row T (.lst L) true)]) w := by
    refine @HR.mk den0 _ _ _ _ _ _ ⟨rfl, rfl, rfl, Nat.le_refl _, fun _ _ _ => rfl⟩ (fun i e h => ?_) (fun i o h => ?_) (fun i j o p x y hne hi hj hlo hlp hw hx hy => ?_) (fun i o e hi hw _ => ?_)
    · rw [(hE h).1, get_ofL]; exact fun h => by cases h
    · obtain ⟨rfl, rfl⟩ := hget h
      refine ⟨⟨a.block, a.off, cap⟩, cells, rfl, ⟨fz, hb⟩, nofun, fun k v hk => ?_⟩
      rw [get_lst] at hk
      have h1 := hL k v hk
      rw [add_none hs] at h1
      obtain ⟨_, cells2, T2, fz2, hb2, h2⟩ := cell_at h1
      simp only at hb2 h2
      rw [hb] at hb2
      cases hb2
      have hpv := List.all_eq_true.1 hp v (List.mem_of_getElem? hk)
      exact ⟨v, h2, @VR.cleanS den0 _ _ (by cases v <;> first | rfl | (simp [plainS] at hpv)), by cases v <;> first | rfl | (simp [plainS] at hpv)⟩
    · obtain ⟨rfl, _⟩ := hget hi
      obtain ⟨rfl, _⟩ := hget hj
      exact absurd rfl hne
    · obtain ⟨_, rfl⟩ := hget hi
      cases hw
  have hargs : LR0 E [.slice (some ⟨5, 0, none⟩) len (if cap < HALF then cap else INF)] [.slice (some a) len cap] := by
    refine ⟨rfl, fun k x y hx hy => ?_⟩
    match k with
    | 0 =>
      simp only [List.getElem?_cons_zero, Option.some.injEq] at hx hy
      subst hx hy
      have hcap := fit_cap ⟨a.block, a.off, cap⟩ (cap := cap) rfl
      have := @VR.sl den0 E 5 0 len (if cap < HALF then cap else INF) ⟨a.block, a.off, cap⟩ a rfl (by rw [hcap]; exact hl) (.inl (by cases a; simp only at hs; subst hs; rfl))
      rw [hcap] at this
      exact this
    | k + 1 => simp at hx
  have := (hc T).2 w (fun _ => False) E [.slice (some a) len cap] hrow hargs Fence.wide 0 ⟨fun _ => trivial, rfl⟩
  exact (callsIn_wide.1 this).mono fun e w' ⟨v', E', h1, _, h3, h4⟩ => ⟨⟨v', E', h1, h4⟩, (@HR.keeps den0 _ _ _ _ _ _ h3).below⟩
theorem call_nil {P : Program} {g : FuncId} {w : World} {res : Value} {B : HL} (hc : Ctr P g [.slice none 0 0] [] res B) : Calls P g #[.slice none 0 0] w fun e w' => (∃ v' E', e = .returned v' ∧ VR0 E' res v') ∧ Go.RowKit.Below w.heap.size w w' := by
  have hargs : LR0 (fun _ => none) [.slice none 0 0] [.slice none 0 0] := ⟨rfl, fun k x y hx hy => by
    match k with
    | 0 =>
      simp only [List.getElem?_cons_zero, Option.some.injEq] at hx hy
      subst hx hy
      exact @VR.nilS den0 _
    | k + 1 => simp at hx⟩
  have := hc.2 w (fun _ => False) (fun _ => none) [.slice none 0 0] (@HR.start den0 P w) hargs Fence.wide 0 ⟨fun _ => trivial, rfl⟩
  exact (callsIn_wide.1 this).mono fun e w' ⟨v', E', h1, _, h3, h4⟩ => ⟨⟨v', E', h1, h4⟩, (@HR.keeps den0 _ _ _ _ _ _ h3).below⟩
theorem call_zero {P : Program} {g : FuncId} {w : World} {a : Addr} {res : Value} {B : HL} (hc : Ctr P g [.slice (some ⟨5, 0, none⟩) 0 0] [(5, .dead)] res B) : Calls P g #[.slice (some a) 0 0] w fun e w' => (∃ v' E', e = .returned v' ∧ VR0 E' res v') ∧ Go.RowKit.Below w.heap.size w w' := by
  let E : Env := fun i => if i = 5 then some ⟨0, 0, 0⟩ else none
  have hget : ∀ {i : Nat} {o : AObj}, (ofL [(5, .dead)]).get i = some o → i = 5 ∧ o = .dead := fun {i o} h => by
    rw [get_ofL] at h
    have := lkL_mem h
    simp only [List.mem_singleton, Prod.mk.injEq] at this
    exact this
  have hrow : HR0 P w (fun _ => False) E (ofL [(5, .dead)]) w := by
    refine @HR.mk den0 _ _ _ _ _ _ ⟨rfl, rfl, rfl, Nat.le_refl _, fun _ _ _ => rfl⟩ (fun i e h => ?_) (fun i o h => ?_) (fun i j o p x y hne hi hj hlo hlp hw hx hy => ?_) (fun i o e hi hw _ => ?_)
    · simp only [E] at h
      split at h
      · rename_i hi; subst hi; rw [get_ofL]; exact fun h => by cases h
      · cases h
    · obtain ⟨rfl, rfl⟩ := hget h; trivial
    · obtain ⟨rfl, rfl⟩ := hget hi; cases hlo
    · obtain ⟨rfl, rfl⟩ := hget hi; cases hw
  have hargs : LR0 E [.slice (some ⟨5, 0, none⟩) 0 0] [.slice (some a) 0 0] := by
    refine ⟨rfl, fun k x y hx hy => ?_⟩
    match k with
    | 0 =>
      simp only [List.getElem?_cons_zero, Option.some.injEq] at hx hy
      subst hx hy
      have hcap : capOf ⟨0, 0, 0⟩ 0 = 0 := by decide +kernel
      have := @VR.sl den0 E 5 0 0 0 ⟨0, 0, 0⟩ a rfl (Nat.zero_le _) (.inr hcap)
      rw [hcap] at this
      exact this
    | k + 1 => simp at hx
  have := hc.2 w (fun _ => False) E [.slice (some a) 0 0] hrow hargs Fence.wide 0 ⟨fun _ => trivial, rfl⟩
  exact (callsIn_wide.1 this).mono fun e w' ⟨v', E', h1, _, h3, h4⟩ => ⟨⟨v', E', h1, h4⟩, (@HR.keeps den0 _ _ _ _ _ _ h3).below⟩
theorem pairs_of {f : Nat → Option Value} : ∀ n : Nat, (∀ i, i < n → ∃ x y : Int, f (i * 2) = some (.int .i64 x) ∧ f (i * 2 + 1) = some (.int .i64 y)) → ∃ l : List (Int × Int), l.length = n ∧ ∀ k v, (encL l)[k]? = some v → f k = some v
  | 0, _ => ⟨[], rfl, fun k v h => by simp [encL] at h⟩
  | n + 1, h => by
    obtain ⟨l, hl, hg⟩ := pairs_of n fun i hi => h i (by omega)
    obtain ⟨x, y, hx, hy⟩ := h n (by omega)
    refine ⟨l ++ [(x, y)], by simp [hl], fun k v hk => ?_⟩
    rw [encL_app] at hk
    by_cases hkn : k < (encL l).length
    · rw [List.getElem?_append_left hkn] at hk; exact hg k v hk
    · rw [List.getElem?_append_right (by omega)] at hk
      have hlen := encL_len l
      have h0 : k - (encL l).length = 0 ∨ k - (encL l).length = 1 := by
        have := (List.getElem?_eq_some_iff.1 hk).1
        simp only [encL, List.length_cons, List.length_nil] at this
        omega
      rcases h0 with h0 | h0
      · rw [h0] at hk
        simp only [encL, List.getElem?_cons_zero, Option.some.injEq] at hk
        subst hk
        rw [show k = n * 2 from by omega]; exact hx
      · rw [h0] at hk
        simp only [encL, List.getElem?_cons_succ, List.getElem?_cons_zero, Option.some.injEq] at hk
        subst hk
        rw [show k = n * 2 + 1 from by omega]; exact hy
theorem at_once {w : World} {a : Addr} {len cap : Nat} (hl : len ≤ cap) (hc : ∀ i, i < cap → ∃ x y : Int, w.cell? (a.add (i * 2)) = some (.int .i64 x) ∧ w.cell? (a.add (i * 2 + 1)) = some (.int .i64 y)) :
    Calls Try.prog 6 #[.slice (some a) len cap] w fun e w' => e = .returned (.bool true) ∧ Go.RowKit.Below w.heap.size w w' := by
  have fin : ∀ {e : Ending} {w' : World}, ((∃ v' E', e = .returned v' ∧ VR0 E' (.bool true) v') ∧ Go.RowKit.Below w.heap.size w w') → e = .returned (.bool true) ∧ Go.RowKit.Below w.heap.size w w' := fun {e w'} ⟨⟨v', E', h1, h2⟩, h3⟩ => by
    cases h2
    exact ⟨h1, h3⟩
  by_cases h0 : cap = 0
  · subst h0
    have : len = 0 := by omega
    subst this
    exact (call_zero zero_ctr).mono fun _ _ => fin
  · obtain ⟨l, hn, hg⟩ := pairs_of (f := fun k => w.cell? (a.add k)) len fun i hi => hc i (by omega)
    obtain ⟨x, _, hx, _⟩ := hc 0 (by omega)
    subst hn
    exact (call_slice hl (v0 := .int .i64 x) hx hg (encL_plain l) fun T => top_ctr l _ T).mono fun _ _ => fin
theorem at_nil (w : World) : Calls Try.prog 6 #[.slice none 0 0] w fun e w' => e = .returned (.bool true) ∧ Go.RowKit.Below w.heap.size w w' :=
  (call_nil nil_ctr).mono fun _ _ ⟨⟨_, _, h1, h2⟩, h3⟩ => by
    cases h2
    exact ⟨h1, h3⟩
end Go.Proofs.Ytjpgnjaobfbojaa

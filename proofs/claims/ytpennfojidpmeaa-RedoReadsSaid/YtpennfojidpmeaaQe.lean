import Derived.Test.YtpennfojidpmeaaQd
import Derived.RangeFuncIn
import Derived.RangeFuncLeaves
import Derived.RangeFuncRecord
namespace Go.Sx
def footR (e : Entry) : Ren := e.foots.map (fun f => (f.a, f.b)) ++ e.hids
noncomputable def cvFs [Den] (τ : Ren) : List Foot → Option HL
  | [] => some []
  | f :: fs => match cvO τ (bif f.ro then roO f.o else f.o), cvFs τ fs with
    | some o, some l => some ((f.b, o) :: l)
    | _, _ => none
theorem cvFs_get [Den] {τ : Ren} : ∀ {fs : List Foot} {A : HL}, cvFs τ fs = some A → ∀ {b : Nat} {o : AObj}, lkL A b = some o → ∃ f ∈ fs, f.b = b ∧ cvO τ (bif f.ro then roO f.o else f.o) = some o
  | [], A, h, b, o, hb => by cases h; cases hb
  | f :: fs, A, h, b, o, hb => by
    simp only [cvFs] at h
    split at h
    · rename_i o1 l h1 h2
      cases h
      simp only [lkL] at hb
      cases he : Nat.beq f.b b with
      | true => rw [he] at hb; cases hb; exact ⟨f, List.mem_cons_self, beq_iff.1 he, h1⟩
      | false => rw [he] at hb; obtain ⟨g, k1, k2⟩ := cvFs_get h2 hb; exact ⟨g, List.mem_cons_of_mem _ k1, k2⟩
    · cases h
theorem cvFs_has [Den] {τ : Ren} : ∀ {fs : List Foot} {A : HL}, cvFs τ fs = some A → ∀ f ∈ fs, ∃ o, lkL A f.b = some o
  | [], A, h, f, hf => by cases hf
  | g :: fs, A, h, f, hf => by
    simp only [cvFs] at h
    split at h
    · rename_i o1 l h1 h2
      cases h
      simp only [lkL]
      cases he : Nat.beq g.b f.b with
      | true => exact ⟨_, rfl⟩
      | false =>
        rcases List.mem_cons.1 hf with rfl | hf
        · rw [Nat.beq_refl] at he; cases he
        · exact cvFs_has h2 f hf
    · cases h
def entB (e : Entry) : Bool := injB (allR e) && e.foots.all (fun f => bif f.ro then !(writable (roO f.o)) else writable f.o && (writable f.o' || !(live f.o'))) && e.news.all (fun p => writable p.2 || !(live p.2))
noncomputable def entOf [Den] (e : Entry) : Option (List Value × HL × Value × HL) := match mapO (cv (footR e) DEP) e.args, cvFs (footR e) e.foots, cv (outR e) DEP e.res, cvH (outR e) [] (ofL (aftL e ++ deadsA e.hids)) (outR e) with
  | some a, some A, some r, some B => some (a, A ++ deadsB e.hids, r, B)
  | _, _, _, _ => none
def EntryOK [Den] (P : Program) (g : FuncId) (e : Entry) : Prop := entB e = true ∧ ∃ args A res B, entOf e = some (args, A, res, B) ∧ Ctr P g args A res B
theorem renF_mem : ∀ {fs : List Foot} {p : Nat × Nat}, p ∈ renF fs → ∃ f ∈ fs, f.ro = false ∧ p = (f.a, f.b)
  | [], p, h => by cases h
  | f :: fs, p, h => by
    simp only [renF] at h
    cases hr : f.ro with
    | true => rw [hr] at h; obtain ⟨g, h1, h2⟩ := renF_mem (fs := fs) h; exact ⟨g, List.mem_cons_of_mem _ h1, h2⟩
    | false =>
      rw [hr] at h
      rcases List.mem_cons.1 h with h | h
      · exact ⟨f, List.mem_cons_self, hr, h⟩
      · obtain ⟨g, h1, h2⟩ := renF_mem (fs := fs) h; exact ⟨g, List.mem_cons_of_mem _ h1, h2⟩
theorem mem_renF : ∀ {fs : List Foot} {f : Foot}, f ∈ fs → f.ro = false → (f.a, f.b) ∈ renF fs ∧ (f.a, f.o') ∈ aftF fs
  | g :: fs, f, h, hr => by
    simp only [renF, aftF]
    rcases List.mem_cons.1 h with rfl | h
    · rw [hr]; exact ⟨List.mem_cons_self, List.mem_cons_self⟩
    · obtain ⟨k1, k2⟩ := mem_renF h hr
      cases g.ro with
      | true => exact ⟨k1, k2⟩
      | false => exact ⟨List.mem_cons_of_mem _ k1, List.mem_cons_of_mem _ k2⟩
theorem numR_mem : ∀ {l : HL} {k : Nat} {p : Nat × Nat}, p ∈ numR k l → ∃ o, lkL (numL k l) p.1 = some o ∧ (p.2, o) ∈ l
  | [], k, p, h => by cases h
  | (b, o) :: l, k, p, h => by
    simp only [numR] at h
    simp only [numL, lkL]
    rcases List.mem_cons.1 h with rfl | h
    · exact ⟨o, by rw [Nat.beq_refl]; rfl, List.mem_cons_self⟩
    · obtain ⟨o2, k1, k2⟩ := numR_mem h
      have hlt : ∀ {l : HL} {k j : Nat} {o : AObj}, lkL (numL k l) j = some o → k ≤ j := by
        intro l
        induction l with
        | nil => intro k j o h; cases h
        | cons q l ih =>
          intro k j o h
          obtain ⟨b, o'⟩ := q
          simp only [numL, lkL] at h
          cases hb : Nat.beq k j with
          | true => have := beq_iff.1 hb; omega
          | false => rw [hb] at h; have := ih h; omega
      have := hlt k1
      have hb : Nat.beq k p.1 = false := by
        cases hb : Nat.beq k p.1 with
        | false => rfl
        | true => have := beq_iff.1 hb; omega
      rw [hb]
      exact ⟨o2, k1, List.mem_cons_of_mem _ k2⟩
theorem lkL_of_mem : ∀ {l : HL} {k : Nat} {o : AObj}, (k, o) ∈ l → ∃ o', lkL l k = some o'
  | (i, p) :: l, k, o, h => by
    simp only [lkL]
    cases hb : Nat.beq i k with
    | true => exact ⟨_, rfl⟩
    | false =>
      rcases List.mem_cons.1 h with h | h
      · cases h; rw [Nat.beq_refl] at hb; cases hb
      · exact lkL_of_mem h
theorem numL_lk_mem : ∀ {l : HL} {k j : Nat} {o : AObj}, lkL (numL k l) j = some o → ∃ b, (j, b) ∈ numR k l ∧ (b, o) ∈ l
  | [], k, j, o, h => by cases h
  | (b, o') :: l, k, j, o, h => by
    simp only [numL, lkL] at h
    simp only [numR]
    cases hb : Nat.beq k j with
    | true => rw [hb] at h; cases h; have := beq_iff.1 hb; subst this; exact ⟨b, List.mem_cons_self, List.mem_cons_self⟩
    | false => rw [hb] at h; obtain ⟨b2, k1, k2⟩ := numL_lk_mem h; exact ⟨b2, List.mem_cons_of_mem _ k1, List.mem_cons_of_mem _ k2⟩
section
variable {P : Program} {w0 : World} {F : Nat → Prop} {E : Env} {H : Heap} {w : World}
theorem ObjR.move [Den] {E' : Env} {w' : World} {k : Nat} {o : AObj} (h : ObjR P E w k o) (hle : E.le E') (hn : E k = none → E' k = none) (hb : ∀ e, E k = some e → live o = true → w'.heap[e.blk]? = w.heap[e.blk]?) : ObjR P E' w' k o := by
  have h2 := h.mono hle hn
  cases o with
  | row T cs ro =>
    obtain ⟨e, cells, h1, _⟩ := h
    obtain ⟨e', cells', k1, k2, k3⟩ := h2
    rw [hle _ _ h1] at k1; cases k1
    exact ⟨e, cells', hle _ _ h1, k2.congr (hb e h1 rfl), k3⟩
  | orow T j ro =>
    obtain ⟨e, cells, h1, _⟩ := h
    obtain ⟨e', cells', k1, k2, k3⟩ := h2
    rw [hle _ _ h1] at k1; cases k1
    exact ⟨e, cells', hle _ _ h1, k2.congr (hb e h1 rfl), k3⟩
  | mrow T j ro =>
    rcases h with ⟨h1, h3⟩ | ⟨e, cells, h1, h3, h4⟩
    · exact .inl ⟨hn h1, h3⟩
    · exact .inr ⟨e, cells, hle _ _ h1, h3.congr (hb e h1 rfl), h4⟩
  | map es =>
    obtain ⟨e, ents, cl, h1, _⟩ := h
    obtain ⟨e', ents', cl', k1, k2, k3⟩ := h2
    rw [hle _ _ h1] at k1; cases k1
    exact ⟨e, ents', cl', hle _ _ h1, by rw [hb e h1 rfl]; exact k2, k3⟩
  | loop st pe f ps a b d =>
    obtain ⟨e, l, h1, _⟩ := h
    obtain ⟨e', l', k1, k2, k3⟩ := h2
    rw [hle _ _ h1] at k1; cases k1
    exact ⟨e, l', hle _ _ h1, by rw [hb e h1 rfl]; exact k2, k3⟩
  | defd =>
    obtain ⟨e, h1, h2'⟩ := h
    exact ⟨e, hle _ _ h1, by rw [hb e h1 rfl]; exact h2'⟩
  | dead => trivial
theorem ObjR.move' [Den] {E' : Env} {w' : World} {k : Nat} {o : AObj} (h : ObjR P E w k o) (hle : E.le E') (hn : notM o = false → E' k = E k) (hb : ∀ e, E k = some e → live o = true → w'.heap[e.blk]? = w.heap[e.blk]?) : ObjR P E' w' k o := by
  cases hk : E k with
  | some e => exact h.move hle (fun h0 => by rw [hk] at h0; cases h0) hb
  | none =>
    cases hm : notM o with
    | false => exact h.move hle (fun _ => (hn hm).trans hk) hb
    | true =>
      cases o with
      | dead => trivial
      | mrow T j ro => cases hm
      | row T cs ro => obtain ⟨e, _, h1, _⟩ := h; rw [hk] at h1; cases h1
      | orow T cs ro => obtain ⟨e, _, h1, _⟩ := h; rw [hk] at h1; cases h1
      | map es => obtain ⟨e, _, _, h1, _⟩ := h; rw [hk] at h1; cases h1
      | loop st pe f ps a b d => obtain ⟨e, _, h1, _⟩ := h; rw [hk] at h1; cases h1
      | defd => obtain ⟨e, h1, _⟩ := h; rw [hk] at h1; cases h1
theorem ObjR.has [Den] {k : Nat} {o : AObj} (h : ObjR P E w k o) (hl : live o = true) : (∃ e, E k = some e) ∨ notM o = false := by
  cases o with
  | row T cs ro => obtain ⟨e, _, h1, _⟩ := h; exact .inl ⟨e, h1⟩
  | orow T cs ro => obtain ⟨e, _, h1, _⟩ := h; exact .inl ⟨e, h1⟩
  | map es => obtain ⟨e, _, _, h1, _⟩ := h; exact .inl ⟨e, h1⟩
  | loop st pe f ps a b d => obtain ⟨e, _, h1, _⟩ := h; exact .inl ⟨e, h1⟩
  | defd => obtain ⟨e, h1, _⟩ := h; exact .inl ⟨e, h1⟩
  | dead => cases hl
  | mrow T j ro => exact .inr rfl
theorem map_inj {α β : Type} {f : α → β} : ∀ {l : List α}, (l.map f).Nodup → ∀ {x y : α}, x ∈ l → y ∈ l → f x = f y → x = y
  | [], _, x, y, h, _, _ => by cases h
  | a :: l, hn, x, y, hx, hy, h => by
    simp only [List.map_cons, List.nodup_cons] at hn
    rcases List.mem_cons.1 hx with e1 | hx <;> rcases List.mem_cons.1 hy with e2 | hy
    · rw [e1, e2]
    · exact absurd (List.mem_map.2 ⟨y, hy, by rw [← h, e1]⟩) hn.1
    · exact absurd (List.mem_map.2 ⟨x, hx, by rw [h, e2]⟩) hn.1
    · exact map_inj hn.2 hx hy h
def footF (e : Entry) (E : Env) : Nat → Prop := fun k => ∃ f ∈ e.foots, f.ro = false ∧ ∃ x, E f.a = some x ∧ x.blk = k
theorem frame_core [Den] {e : Entry} {args : List Value} {A : HL} {res : Value} {B : HL} (hB : entB e = true) (hent : entOf e = some (args, A, res, B)) {c' : Nat} {v : Value} {H' : Heap} {L : Lg} (hrun : runE e e.c H = .ok v c' H' L) (hr : HR P w0 F E H w) {args' : List Value} (hl : LR E e.args args') :
    HR0 P w (footF e E) (envOf (footR e) E) (ofL A) w ∧ LR0 (envOf (footR e) E) args args' ∧ ∀ v' E1 w', (∀ i x, envOf (footR e) E i = some x → (lkL B i).isSome = true → E1 i = some x) → HR0 P w (footF e E) E1 (ofL B) w' → VR0 E1 res v' →
      ∃ E', E.le E' ∧ HR P w0 F E' H' w' ∧ VR E' v v' := by
  simp only [entB, Bool.and_eq_true, List.all_eq_true] at hB
  obtain ⟨⟨hinj, hfw⟩, hnw⟩ := hB
  -- the parts of the entry
  unfold entOf at hent
  split at hent
  rotate_left
  · cases hent
  rename_i a1 A1 r1 B1 ea eA er eB
  cases hent
  -- the run
  replace hrun := bind_ok.1 hrun
  obtain ⟨_, c0, H0, _, _, hh0, hrun, _⟩ := hrun
  obtain ⟨g1, g2, hhid⟩ := hidsM_inv hh0
  rw [g1, g2] at hrun
  clear g1 g2 hh0
  replace hrun := bind_ok.1 hrun
  obtain ⟨_, c1, H1, _, _, hf, hrun, _⟩ := hrun
  replace hrun := bind_ok.1 hrun
  obtain ⟨_, c2, H2, _, _, hn, hrun, _⟩ := hrun
  obtain ⟨q1, _, q3, _⟩ := pure_ok.1 hrun
  subst q1 q3
  simp only [injB, Bool.and_eq_true] at hinj
  have nd1 := nodup_of hinj.1
  have nd2 := nodup_of hinj.2
  have hamap : (allR e).map (·.1) = e.foots.map (·.a) ++ ((numR e.c e.news).map (·.1) ++ e.hids.map (·.1)) := by simp [allR, Function.comp_def]
  have hbmap : (allR e).map (·.2) = e.foots.map (·.b) ++ ((numR e.c e.news).map (·.2) ++ e.hids.map (·.2)) := by simp [allR, Function.comp_def]
  rw [hamap] at nd1
  rw [hbmap] at nd2
  have ndf := (List.nodup_append.1 nd1).1
  obtain ⟨i1, i2, i3⟩ := footsM_inv ndf hf
  subst i1
  obtain ⟨j1, j2⟩ := newsM_inv hn
  -- the numbers
  have mF : ∀ f ∈ e.foots, (f.a, f.b) ∈ footR e := fun f hf => List.mem_append.2 (.inl (List.mem_map.2 ⟨f, hf, rfl⟩))
  have mH : ∀ p ∈ e.hids, p ∈ footR e := fun p hp => List.mem_append.2 (.inr hp)
  have hfoot : injB (footR e) = true := by
    have ha : (footR e).map (·.1) = e.foots.map (·.a) ++ e.hids.map (·.1) := by simp [footR, Function.comp_def]
    have hb : (footR e).map (·.2) = e.foots.map (·.b) ++ e.hids.map (·.2) := by simp [footR, Function.comp_def]
    have key : ∀ l : List Nat, l.Nodup → nodupB l = true := by
      intro l
      induction l with
      | nil => intro _; rfl
      | cons x xs ih =>
        intro h
        obtain ⟨h1, h2⟩ := List.nodup_cons.1 h
        simp only [nodupB, Bool.and_eq_true, Bool.not_eq_true', List.any_eq_false]
        exact ⟨fun y hy hb => h1 (beq_iff.1 hb ▸ hy), ih h2⟩
    simp only [injB, Bool.and_eq_true, ha, hb]
    exact ⟨key _ (nd1.sublist ((List.sublist_append_right _ _).append_left _)), key _ (nd2.sublist ((List.sublist_append_right _ _).append_left _))⟩
  have hfn : nodupB ((footR e).map (·.1)) = true ∧ nodupB ((footR e).map (·.2)) = true := by simpa [injB] using hfoot
  have out_mem : ∀ {a b : Nat}, (a, b) ∈ outR e → (∃ f ∈ e.foots, f.ro = false ∧ a = f.a ∧ b = f.b) ∨ (a, b) ∈ numR e.c e.news ∨ (a, b) ∈ e.hids := by
    intro a b h
    rcases List.mem_append.1 h with h | h
    · obtain ⟨f, h1, h2, h3⟩ := renF_mem h
      cases h3
      exact .inl ⟨f, h1, h2, rfl, rfl⟩
    · exact .inr (List.mem_append.1 h)
  have outAll : ∀ {p : Nat × Nat}, p ∈ outR e → p ∈ allR e := by
    intro p h
    rcases out_mem h with ⟨f, h1, _, h3, h4⟩ | h
    · refine List.mem_append.2 (.inl (List.mem_map.2 ⟨f, h1, ?_⟩)); exact Prod.ext h3.symm h4.symm
    · exact List.mem_append.2 (.inr (List.mem_append.2 h))
  -- B side: both ways
  have lkO : ∀ {a b : Nat}, lk (outR e) a = some b → lkR (outR e) b = some a := by
    intro a b h
    have hm := lk_mem h
    cases hx : lkR (outR e) b with
    | none =>
      exfalso
      have : ∀ {τ : Ren} {a b : Nat}, (a, b) ∈ τ → lkR τ b ≠ none := by
        intro τ
        induction τ with
        | nil => intro a b h; cases h
        | cons q τ ih =>
          intro a b h
          simp only [lkR]
          cases hb : Nat.beq q.2 b with
          | true => simp
          | false =>
            rcases List.mem_cons.1 h with h | h
            · subst h; rw [Nat.beq_refl] at hb; cases hb
            · exact ih h
      exact this hm hx
    | some a2 =>
      have hm2 := lkR_mem hx
      have := map_inj (f := fun p : Nat × Nat => p.2) (l := allR e) (by rw [hbmap]; exact nd2) (outAll hm) (outAll hm2) rfl
      cases this
      rfl
  have lkRO : ∀ {a b : Nat}, lkR (outR e) b = some a → lk (outR e) a = some b := by
    intro a b h
    have hm := lkR_mem h
    cases hx : lk (outR e) a with
    | none =>
      exfalso
      have : ∀ {τ : Ren} {a b : Nat}, (a, b) ∈ τ → lk τ a ≠ none := by
        intro τ
        induction τ with
        | nil => intro a b h; cases h
        | cons q τ ih =>
          intro a b h
          simp only [lk]
          cases hb : Nat.beq q.1 a with
          | true => simp
          | false =>
            rcases List.mem_cons.1 h with h | h
            · subst h; rw [Nat.beq_refl] at hb; cases hb
            · exact ih h
      exact this hm hx
    | some b2 =>
      have hm2 := lk_mem hx
      have := map_inj (f := fun p : Nat × Nat => p.1) (l := allR e) (by rw [hamap]; exact nd1) (outAll hm) (outAll hm2) rfl
      cases this
      rfl
  -- the callee's start
  have hs0 : Same (footR e) E (envOf (footR e) E) := same_of hfoot
  have hobj := hr.obj
  have st : HR0 P w (footF e E) (envOf (footR e) E) (ofL (A1 ++ deadsB e.hids)) w := by
    have key : ∀ {b : Nat} {o : AObj}, (ofL (A1 ++ deadsB e.hids)).get b = some o → live o = true → ∃ f ∈ e.foots, f.b = b ∧ lkR (footR e) b = some f.a ∧ cvO (footR e) (bif f.ro then roO f.o else f.o) = some o ∧
        (∃ x, H.get f.a = some x ∧ matchO f.o x = true ∧ live o = live x ∧ (writable o = true → writable x = true ∧ f.ro = false)) := by
      intro b o h hlo
      rw [get_ofL, lkL_app] at h
      have h : lkL A1 b = some o := by
        cases hA1 : lkL A1 b with
        | some o2 => rw [hA1] at h; exact h
        | none =>
          rw [hA1] at h
          obtain ⟨p, _, hp2⟩ := List.mem_map.1 (lkL_mem h)
          cases hp2
          cases hlo
      obtain ⟨f, h1, h2, h3⟩ := cvFs_get eA h
      obtain ⟨x, h4, h5⟩ := i2 f h1
      obtain ⟨k1, k2⟩ := cvO_live h3
      obtain ⟨m1, m2⟩ := matchO_live h5
      subst h2
      refine ⟨f, h1, rfl, lkR_of_mem hfn.2 (mF f h1), h3, x, h4, h5, ?_, ?_⟩
      · cases hro : f.ro with
        | true => rw [hro] at k1; exact k1.trans ((roO_live f.o).1.trans m1.symm)
        | false => rw [hro] at k1; exact k1.trans m1.symm
      · intro hw
        have hff := hfw f h1
        rw [k2] at hw
        cases hro : f.ro with
        | true => rw [hro] at hw hff; simp only [cond_true, Bool.not_eq_true'] at hw hff; rw [hff] at hw; cases hw
        | false => rw [hro] at hw; exact ⟨by rw [m2]; exact hw, rfl⟩
    refine @HR.mk den0 _ _ _ _ _ _ ⟨rfl, rfl, rfl, Nat.le_refl _, fun _ _ _ => rfl⟩ (fun b x hx => ?_) (fun b o ho => ?_) (fun b b2 o p x x2 hne ho hp hlo hlp hw hx hx2 => ?_) (fun b o x ho hw hx => ?_)
    · unfold envOf at hx
      cases h : lkR (footR e) b with
      | none => rw [h] at hx; cases hx
      | some a =>
        rw [get_ofL, lkL_app]
        rcases List.mem_append.1 (lkR_mem h) with hm | hm
        · obtain ⟨f, h1, h2⟩ := List.mem_map.1 hm
          cases h2
          obtain ⟨o, ho⟩ := cvFs_has eA f h1
          rw [ho]; simp
        · cases lkL A1 b with
          | some o => simp
          | none =>
            obtain ⟨o, ho⟩ : ∃ o', lkL (deadsB e.hids) b = some o' := lkL_of_mem (List.mem_map.2 ⟨(a, b), hm, rfl⟩ : (b, AObj.dead) ∈ deadsB e.hids)
            simp only; rw [ho]; simp
    · cases hlo : live o with
      | false => cases o <;> first | trivial | cases hlo
      | true =>
      obtain ⟨f, h1, h2, h3, h4, x, h5, h6, _⟩ := key ho hlo
      subst h2
      refine ObjR.cv hs0 (lk_of_mem hfn.1 (mF f h1)) (o := bif f.ro then roO f.o else f.o) ?_ h4
      have := (hobj f.a x h5).spec h6
      cases f.ro with
      | true => exact this.toRo
      | false => exact this
    · obtain ⟨f, h1, h2, h3, h4, y, h5, h6, h7, h8⟩ := key ho hlo
      obtain ⟨f2, g1, g2, g3, g4, y2, g5, g6, g7, g8⟩ := key hp hlp
      unfold envOf at hx hx2
      rw [h3] at hx
      rw [g3] at hx2
      refine hr.inj f.a f2.a y y2 x x2 (fun e => hne ?_) h5 g5 (h7 ▸ hlo) (g7 ▸ hlp) ?_ hx hx2
      · have := map_inj ndf h1 g1 e
        subst this
        rw [← h2, ← g2]
      · rcases hw with hw | hw
        · exact .inl (h8 hw).1
        · exact .inr (g8 hw).1
    · obtain ⟨f, h1, h2, h3, h4, y, h5, h6, h7, h8⟩ := key ho (by cases o <;> first | rfl | cases hw)
      unfold envOf at hx
      rw [h3] at hx
      exact .inr ⟨f, h1, (h8 hw).2, x, hx, rfl⟩
  have stL : LR0 (envOf (footR e) E) args args' := hl.cv hs0 ea
  refine ⟨st, stL, fun v' E1 w' p2 p3 p4 => ?_⟩
  -- the new relation
  obtain ⟨E', hE'⟩ : ∃ E' : Env, E' = fun k => match E k with
      | some x => some x
      | none => (lk (outR e) k).bind E1 := ⟨_, rfl⟩
  have hle : E.le E' := fun i x h => by rw [hE']; simp only [h]
  have hnone : ∀ {k : Nat}, (∃ o, lkL (numL e.c e.news) k = some o) → E k = none := by
    rintro k ⟨o, ho⟩
    cases hx : E k with
    | none => rfl
    | some x =>
      exfalso
      have h1 := j1 k o ho
      rw [i3 k] at h1
      have h2 := hr.dom k x hx
      cases hl2 : lkL (aftF e.foots) k with
      | some o2 => rw [hl2] at h1; cases h1
      | none => rw [hl2] at h1; exact h2 h1
  have hsB : Same (outR e) E' E1 := by
    intro a b h
    cases hx : E a with
    | none => rw [hE']; simp only [hx, h, Option.bind_some]
    | some x =>
      rw [hle _ _ hx]
      rcases out_mem (lk_mem h) with ⟨f, f1, f2, rfl, rfl⟩ | hm
      · refine p2 f.b x ?_ ?_
        · unfold envOf; rw [lkR_of_mem hfn.2 (mF f f1)]; exact hx
        · obtain ⟨o', ho'⟩ := cvH_has eB (lkO h)
          rw [ho']; rfl
      · rcases hm with hm | hm
        · obtain ⟨o, k1, _⟩ := numR_mem hm
          rw [hnone ⟨o, k1⟩] at hx; cases hx
        · refine p2 b x ?_ ?_
          · unfold envOf; rw [lkR_of_mem hfn.2 (mH _ hm)]; exact hx
          · obtain ⟨o', ho'⟩ := cvH_has eB (lkO h)
            rw [ho']; rfl
  have hget : ∀ k, H'.get k = (match lkL (aftL e) k with
      | some o => some o
      | none => H.get k) := by
    intro k
    rw [j2 k]
    unfold aftL
    rw [lkL_app]
    cases h1 : lkL (numL e.c e.news) k with
    | some o =>
      have h2 := j1 k o h1
      rw [i3 k] at h2
      cases h3 : lkL (aftF e.foots) k with
      | some o2 => rw [h3] at h2; cases h2
      | none => rfl
    | none =>
      rw [i3 k]
      cases h3 : lkL (aftF e.foots) k <;> rfl
  -- of each object behind: either it is of the callee's, or as it was
  have after : ∀ {k : Nat} {o : AObj}, lkL (aftL e) k = some o → ∃ b o', lk (outR e) k = some b ∧ (ofL B).get b = some o' ∧ cvO (outR e) o = some o' ∧ live o' = live o ∧ writable o' = writable o ∧
      (writable o = true ∨ live o = false) := by
    intro k o h
    have hmem : (∃ b, (k, b) ∈ outR e) ∧ (writable o = true ∨ live o = false) := by
      unfold aftL at h
      rw [lkL_app] at h
      cases h3 : lkL (aftF e.foots) k with
      | some o2 =>
        obtain ⟨f, f1, f2, f3⟩ := aftF_mem (lkL_mem h3)
        cases f3
        refine ⟨⟨f.b, List.mem_append.2 (.inl (mem_renF f1 f2).1)⟩, ?_⟩
        rw [h3] at h
        cases h
        have hff := hfw f f1
        rw [f2] at hff
        simp only [cond_false, Bool.and_eq_true, Bool.or_eq_true, Bool.not_eq_true'] at hff
        exact hff.2
      | none =>
        rw [h3] at h
        obtain ⟨b, k1, k2⟩ := numL_lk_mem h
        refine ⟨⟨b, List.mem_append.2 (.inr (List.mem_append.2 (.inl k1)))⟩, ?_⟩
        have := hnw _ k2
        cases hwo : writable o with
        | true => exact .inl rfl
        | false => rw [hwo] at this; simp only [Bool.false_or, Bool.not_eq_true'] at this; exact .inr this
    obtain ⟨⟨b, hb⟩, hor⟩ := hmem
    have hlk : lk (outR e) k = some b := by
      have : ∀ {τ : Ren} {a b : Nat}, (a, b) ∈ τ → lk τ a ≠ none := by
        intro τ
        induction τ with
        | nil => intro a b h; cases h
        | cons q τ ih =>
          intro a b h
          simp only [lk]
          cases hb : Nat.beq q.1 a with
          | true => simp
          | false =>
            rcases List.mem_cons.1 h with h | h
            · subst h; rw [Nat.beq_refl] at hb; cases hb
            · exact ih h
      cases hx : lk (outR e) k with
      | none => exact absurd hx (this hb)
      | some b2 =>
        have := map_inj (f := fun p : Nat × Nat => p.1) (l := allR e) (by rw [hamap]; exact nd1) (outAll hb) (outAll (lk_mem hx)) rfl
        cases this
        rfl
    obtain ⟨o', ho'⟩ := cvH_has eB (lkO hlk)
    obtain ⟨a, o2, g1, g2, g3⟩ := cvH_get eB ho'
    rw [lkO hlk] at g1
    cases g1
    rw [get_ofL, lkL_app, h] at g2
    cases g2
    obtain ⟨g4, g5⟩ := cvO_live (τ := outR e) (o := o) (o' := o') g3
    exact ⟨b, o', hlk, by rw [get_ofL]; exact ho', g3, g4, g5, hor⟩
  have hB0 : ∀ {f : Foot}, f ∈ e.foots → f.ro = false → ∃ x, H.get f.a = some x ∧ writable x = true ∧ live x = true := by
    intro f h1 h2
    obtain ⟨x, h3, h4⟩ := i2 f h1
    obtain ⟨m1, m2⟩ := matchO_live h4
    have hff := hfw f h1
    rw [h2] at hff
    simp only [cond_false] at hff
    simp only [Bool.and_eq_true] at hff
    have : writable x = true := by rw [m2]; exact hff.1
    exact ⟨x, h3, this, by cases x <;> first | rfl | cases this⟩
  have h1keeps := @HR.keeps den0 _ _ _ _ _ _ p3
  have h1obj := @HR.obj den0 _ _ _ _ _ _ p3
  have h1inj := @HR.inj den0 _ _ _ _ _ _ p3
  have h1own := @HR.own den0 _ _ _ _ _ _ p3
  have still : ∀ {k : Nat} {o : AObj} {x : EI}, lkL (aftL e) k = none → H.get k = some o → live o = true → E k = some x → w'.heap[x.blk]? = w.heap[x.blk]? ∧ x.blk < w.heap.size ∧ ∀ f ∈ e.foots, f.ro = false → ∀ y, E f.a = some y → y.blk ≠ x.blk := by
    intro k o x hk ho hlo hx
    have hlt := hr.blk_lt ho hlo hx
    have hne : ∀ f ∈ e.foots, f.ro = false → ∀ y, E f.a = some y → y.blk ≠ x.blk := by
      intro f f1 f2 y hy
      obtain ⟨z, z1, z2, z3⟩ := hB0 f1 f2
      refine hr.inj f.a k z o y x (fun e2 => ?_) z1 ho z3 hlo (.inl z2) hy hx
      rw [← e2] at hk
      obtain ⟨o', ho'⟩ := lkL_of_mem (List.mem_append.2 (.inl (mem_renF f1 f2).2) : (f.a, f.o') ∈ aftL e)
      have ho2 : lkL (aftL e) f.a = some o' := ho'
      rw [hk] at ho2; cases ho2
    refine ⟨h1keeps.block _ hlt ?_, hlt, hne⟩
    rintro ⟨f, f1, f2, y, hy, hyb⟩
    exact hne f f1 f2 y hy hyb
  have ownF : ∀ {b : Nat}, (∃ f ∈ e.foots, f.ro = false ∧ ∃ x, E f.a = some x ∧ x.blk = b) → w0.heap.size ≤ b ∨ F b := by
    rintro b ⟨f, f1, f2, x, hx, rfl⟩
    obtain ⟨z, z1, z2, z3⟩ := hB0 f1 f2
    exact hr.own f.a z x z1 z2 hx
  have same : ∀ {k : Nat} {o : AObj}, H.get k = some o → lkL (aftL e) k = none → notM o = false → E' k = E k := by
    intro k o ho hk hm
    cases hx : E k with
    | some y => exact hle _ _ hx
    | none =>
      rw [hE']
      simp only [hx]
      cases hlk : lk (outR e) k with
      | none => rfl
      | some b =>
        exfalso
        obtain ⟨o', ho'⟩ := cvH_has eB (lkO hlk)
        obtain ⟨a, o2, g1, g2, g3⟩ := cvH_get eB ho'
        rw [lkO hlk] at g1
        cases g1
        rw [get_ofL, lkL_app, hk] at g2
        obtain ⟨p, hp1, hp2⟩ := List.mem_map.1 (lkL_mem g2)
        cases hp2
        obtain ⟨x2, hx2, hx3⟩ := hhid p hp1
        rw [ho] at hx2
        cases hx2
        rw [hm] at hx3
        cases hx3
  have unchangedE : ∀ {k : Nat} {o : AObj} {x : EI}, lkL (aftL e) k = none → H.get k = some o → live o = true → E' k = some x → E k = some x := by
    intro k o x hk ho hlo hx
    rcases (hr.obj k o ho).has hlo with ⟨y, hy⟩ | hm
    · rw [hle _ _ hy] at hx
      cases hx
      exact hy
    · exact (same ho hk hm).symm.trans hx
  refine ⟨E', hle, ⟨⟨h1keeps.os.trans hr.keeps.os, h1keeps.tape.trans hr.keeps.tape, h1keeps.output.trans hr.keeps.output, Nat.le_trans hr.keeps.size h1keeps.size, fun k hk hF => ?_⟩, fun i x hx => ?_, fun k o ho => ?_, fun i j o p x y hne ho hp hlo hlp hw hx hy => ?_, fun k o x ho hw hx => ?_⟩, ?_⟩
  · rw [h1keeps.block k (Nat.lt_of_lt_of_le hk hr.keeps.size) (fun hh => by
      rcases ownF hh with h | h
      · omega
      · exact hF h)]
    exact hr.keeps.block k hk hF
  · rw [hget i]
    cases h : lkL (aftL e) i with
    | some o => simp
    | none =>
      simp only
      cases hxE : E i with
      | some y => exact hr.dom i y hxE
      | none =>
        rw [hE'] at hx
        simp only [hxE] at hx
        cases hlk : lk (outR e) i with
        | none => rw [hlk] at hx; cases hx
        | some b =>
          obtain ⟨o', ho'⟩ := cvH_has eB (lkO hlk)
          obtain ⟨a, o2, g1, g2, g3⟩ := cvH_get eB ho'
          rw [lkO hlk] at g1
          cases g1
          rw [get_ofL, lkL_app, h] at g2
          obtain ⟨p, hp1, hp2⟩ := List.mem_map.1 (lkL_mem g2)
          cases hp2
          obtain ⟨x2, hx2, _⟩ := hhid p hp1
          rw [hx2]; simp
  · rw [hget k] at ho
    cases h : lkL (aftL e) k with
    | some o2 =>
      rw [h] at ho
      cases ho
      obtain ⟨b, o', a1, a2, a3, _⟩ := after h
      exact ObjR.vc hsB a1 (h1obj b o' a2) a3
    | none =>
      rw [h] at ho
      exact (hr.obj k o ho).move' hle (fun hm => same ho h hm) fun x hx hlo => (still h ho hlo hx).1
  · rw [hget i] at ho
    rw [hget j] at hp
    cases h : lkL (aftL e) i with
    | some o2 =>
      rw [h] at ho
      cases ho
      obtain ⟨b, o', a1, a2, a3, a4, a5, a6⟩ := after h
      have hxb := (hsB _ _ a1).trans hx
      cases h' : lkL (aftL e) j with
      | some p2 =>
        rw [h'] at hp
        cases hp
        obtain ⟨b2, p', c1, c2, c3, c4, c5, c6⟩ := after h'
        have hyb := (hsB _ _ c1).trans hy
        refine h1inj b b2 o' p' x y (fun e2 => hne ?_) a2 c2 (a4 ▸ hlo) (c4 ▸ hlp) (by rw [a5, c5]; exact hw) hxb hyb
        subst e2
        have := lkO a1
        rw [lkO c1] at this
        cases this
        rfl
      | none =>
        rw [h'] at hp
        have hyE := unchangedE h' hp hlp hy
        obtain ⟨_, s2, s3⟩ := still h' hp hlp hyE
        rcases a6 with n2 | n2
        · rcases h1own b o' x a2 (a5.trans n2) hxb with hh | ⟨f, f1, f2, z, hz, hzb⟩
          · omega
          · rw [← hzb]; exact s3 f f1 f2 z hz
        · rw [n2] at hlo; cases hlo
    | none =>
      rw [h] at ho
      have hxE := unchangedE h ho hlo hx
      obtain ⟨_, s2, s3⟩ := still h ho hlo hxE
      cases h' : lkL (aftL e) j with
      | some p2 =>
        rw [h'] at hp
        cases hp
        obtain ⟨b2, p', c1, c2, c3, c4, c5, c6⟩ := after h'
        have hyb := (hsB _ _ c1).trans hy
        rcases c6 with n2 | n2
        · rcases h1own b2 p' y c2 (c5.trans n2) hyb with hh | ⟨f, f1, f2, z, hz, hzb⟩
          · omega
          · rw [← hzb]; exact (s3 f f1 f2 z hz).symm
        · rw [n2] at hlp; cases hlp
      | none =>
        rw [h'] at hp
        exact hr.inj i j o p x y hne ho hp hlo hlp hw hxE (unchangedE h' hp hlp hy)
  · rw [hget k] at ho
    cases h : lkL (aftL e) k with
    | some o2 =>
      rw [h] at ho
      cases ho
      obtain ⟨b, o', a1, a2, a3, a4, a5, a6⟩ := after h
      have hxb := (hsB _ _ a1).trans hx
      rcases h1own b o' x a2 (a5.trans hw) hxb with hh | hh
      · exact .inl (Nat.le_trans hr.keeps.size hh)
      · exact ownF hh
    | none =>
      rw [h] at ho
      have hlo : live o = true := by cases o <;> first | rfl | cases hw
      exact hr.own k o x ho hw (unchangedE h ho hlo hx)
  · exact VR.vc hsB _ p4 er
theorem frame [Den] {g : FuncId} {e : Entry} (he : EntryOK P g e) {c' : Nat} {v : Value} {H' : Heap} {L : Lg} (hrun : runE e e.c H = .ok v c' H' L) (hr : HR P w0 F E H w) {args' : List Value} (hl : LR E e.args args') {Fe : Fence} {n : Nat} (hW : Wd Fe) :
    CallsIn Fe n P g args'.toArray w (fun e w' => ∃ v' E', e = .returned v' ∧ E.le E' ∧ HR P w0 F E' H' w' ∧ VR E' v v') := by
  obtain ⟨hB, args, A, res, B, hent, hc⟩ := he
  obtain ⟨st, stL, fin⟩ := frame_core hB hent hrun hr hl
  refine (hc.2 w _ _ args' st stL Fe n hW).mono fun ed w' ⟨v', E1, p1, p2, p3, p4⟩ => ?_
  obtain ⟨E', k1, k2, k3⟩ := fin v' E1 w' p2 p3 p4
  exact ⟨v', E', p1, k1, k2, k3⟩
def AppC (P : Program) (ats : List TypeId) (args : List Value) (A : HL) (res : Value) (B : HL) : Prop :=
  ∀ (w : World) (F : Nat → Prop) (E : Env) (args' : List Value) (ty : TypeId) (at' : Array TypeId), HR0 P w F E (ofL A) w → LR0 E args args' → at'.toList = ats →
    ∃ v' w' E', (Builtin.append_ at' ty args'.toArray).run P w = .ok v' w' ∧ (∀ i x, E i = some x → (lkL B i).isSome = true → E' i = some x) ∧ HR0 P w F E' (ofL B) w' ∧ VR0 E' res v'
theorem frameB [Den] {ats : List TypeId} {e : Entry} {args : List Value} {A : HL} {res : Value} {B : HL} (hB : entB e = true) (hent : entOf e = some (args, A, res, B)) (hc : AppC P ats args A res B) : AppOk1 P ats e := by
  intro w0 F E H w c' v H' L args' ty at' hrun hr hl hat
  obtain ⟨st, stL, fin⟩ := frame_core hB hent hrun hr hl
  obtain ⟨v', w', E1, k1, k2, k3, k4⟩ := hc w _ _ args' ty at' st stL hat
  obtain ⟨E', m1, m2, m3⟩ := fin v' E1 w' k2 k3 k4
  exact ⟨v', w', E', k1, m1, m2, m3⟩
def LdC (P : Program) (t : TypeId) (a : Value) (A : HL) (res : Value) : Prop :=
  ∀ (w : World) (F : Nat → Prop) (E : Env) (a' : Value), HR0 P w F E (ofL A) w → VR0 E a a' → ∃ v', (Instr.loadAt t a').run P w = .ok v' w ∧ VR0 E res v'
def StC (P : Program) (t : TypeId) (a v : Value) (A B : HL) : Prop :=
  ∀ (w : World) (F : Nat → Prop) (E : Env) (a' v' : Value), HR0 P w F E (ofL A) w → VR0 E a a' → VR0 E v v' → ∃ w', (Instr.storeAt t a' v').run P w = .ok () w' ∧ HR0 P w F E (ofL B) w'
theorem frameS [Den] {t : TypeId} {e : Entry} {a v0 : Value} {A B : HL} (hB : entB e = true) (hent : entOf e = some ([a, v0], A, .bool false, B)) (hc : StC P t a v0 A B) : StOk1 P t e := by
  intro w0 F E H w c' v H' L args' hrun hr hl a' v' ha
  subst ha
  obtain ⟨st, stL, fin⟩ := frame_core hB hent hrun hr hl
  obtain ⟨y, ys, h1, h2, h3⟩ := @LR.cons_inv den0 _ _ _ _ stL
  cases h1
  obtain ⟨y2, ys2, h4, h5, h6⟩ := @LR.cons_inv den0 _ _ _ _ h3
  cases h4
  obtain ⟨w', k1, k2⟩ := hc w _ _ a' v' st h2 h5
  obtain ⟨E', m1, m2, m3⟩ := fin (.bool false) _ w' (fun i x hi _ => hi) k2 (@VR.bool den0 _ false)
  exact ⟨w', k1, E', m1, m2⟩
def MkC (P : Program) (t : TypeId) (a b : Value) (A : HL) (res : Value) (B : HL) : Prop :=
  ∀ (w : World) (F : Nat → Prop) (E : Env) (a' b' : Value), HR0 P w F E (ofL A) w → VR0 E a a' → VR0 E b b' →
    ∃ v' w' E', (Instr.makeSlice t a' b').run P w = .ok v' w' ∧ (∀ i x, E i = some x → (lkL B i).isSome = true → E' i = some x) ∧ HR0 P w F E' (ofL B) w' ∧ VR0 E' res v'
theorem frameK [Den] {t : TypeId} {e : Entry} {a b res : Value} {A B : HL} (hB : entB e = true) (hent : entOf e = some ([a, b], A, res, B)) (hc : MkC P t a b A res B) : MkOk1 P t e := by
  intro w0 F E H w c' v H' L args' hrun hr hl a' b' ha
  subst ha
  obtain ⟨st, stL, fin⟩ := frame_core hB hent hrun hr hl
  obtain ⟨y, ys, h1, h2, h3⟩ := @LR.cons_inv den0 _ _ _ _ stL
  cases h1
  obtain ⟨y2, ys2, h4, h5, h6⟩ := @LR.cons_inv den0 _ _ _ _ h3
  cases h4
  obtain ⟨v', w', E1, k1, k2, k3, k4⟩ := hc w _ _ a' b' st h2 h5
  obtain ⟨E', m1, m2, m3⟩ := fin v' E1 w' k2 k3 k4
  exact ⟨v', w', E', k1, m1, m2, m3⟩
theorem findE_of {args : List Value} {c : Nat} : ∀ {es : List Entry} {e : Entry}, findE args c es = some e → e ∈ es ∧ e.c = c ∧ args = e.args
  | [], e, h => by cases h
  | x :: es, e, h => by
    simp only [findE] at h
    cases hb : (Nat.beq x.c c && beqVL args x.args) with
    | true =>
      rw [hb] at h
      cases h
      simp only [Bool.and_eq_true] at hb
      exact ⟨List.mem_cons_self, beq_iff.1 hb.1, beqVL_eq hb.2⟩
    | false =>
      rw [hb] at h
      obtain ⟨h1, h2⟩ := findE_of h
      exact ⟨List.mem_cons_of_mem _ h1, h2⟩
theorem tblE_snd [Den] {base : Tbl} (hb : TblSnd P w0 F base) : ∀ {l : List (FuncId × List Entry)}, (∀ p ∈ l, ∀ e ∈ p.2, EntryOK P p.1 e) → TblSnd P w0 F (tblE base l)
  | [], _ => hb
  | (k, es) :: l, h => by
    have ih := tblE_snd hb (l := l) fun p hp => h p (List.mem_cons_of_mem _ hp)
    intro g m hg
    simp only [tblE] at hg
    cases hk : Nat.beq k g with
    | false => rw [hk] at hg; exact ih g m hg
    | true =>
      rw [hk] at hg
      have := beq_iff.1 hk
      subst this
      cases hg
      refine ⟨fun args => Local.orc es args, fun args c H v c' H' L hr => ?_⟩
      unfold orc at hr
      cases hf : findE args c es with
      | none => rw [hf] at hr; cases hr
      | some e =>
        rw [hf] at hr
        obtain ⟨h1, h2, h3⟩ := findE_of hf
        subst h2 h3
        have hok := h _ List.mem_cons_self e h1
        obtain ⟨_, _, _, _, _, _, hc⟩ := id hok
        exact ⟨hc.1, fun E w args' hh hl Fe n hW => frame hok hr hh hl hW⟩
end
end Go.Sx
namespace Go.Sx
theorem nthD {α : Type} {p : α → Prop} {l : List α} {d : α} (h : ∀ x ∈ l, p x) (hd : p d) (i : Nat) : p ((nthL l i).getD d) := by
  rw [nthL_eq]
  cases hx : l[i]? with
  | none => exact hd
  | some x => exact h x (List.mem_of_getElem? hx)
theorem beqO_eq {a b : Option Value} (h : beqO a b = true) : a = b := by
  cases a <;> cases b <;> first | rfl | cases h | (rw [beqV_eq h])
theorem beqK_eq {a b : AK} (h : beqK a b = true) : a = b := by
  unfold beqK at h
  split at h <;> simp only [Bool.and_eq_true, beq_iff_eq, decide_eq_true_eq, Nat.beq_eq, Bool.false_eq_true] at h
  · obtain ⟨⟨⟨h1, h2⟩, h3⟩, h4⟩ := h; rw [h1, h2, beqV_eq h3, beqV_eq h4]
  · obtain ⟨h1, h2⟩ := h; rw [h1, beqV_eq h2]
  · obtain ⟨⟨h1, h2⟩, h3⟩ := h; rw [h1, h2, beqV_eq h3]
  · obtain ⟨⟨h1, h2⟩, h3⟩ := h; rw [h1, beqV_eq h2, beqV_eq h3]
  · obtain ⟨⟨h1, h2⟩, h3⟩ := h; rw [h1, beqV_eq h2, h3]
  · obtain ⟨⟨h1, h2⟩, h3⟩ := h; rw [h1, beqV_eq h2, beqV_eq h3]
  · obtain ⟨h1, h2⟩ := h; rw [h1, beqV_eq h2]
  · obtain ⟨⟨h1, h2⟩, h3⟩ := h; rw [h1, beqV_eq h2, beqV_eq h3]
  · obtain ⟨h1, h2⟩ := h; rw [h1, h2]
  · obtain ⟨⟨⟨⟨h1, h2⟩, h3⟩, h4⟩, h5⟩ := h; rw [h1, beqV_eq h2, beqO_eq h3, beqO_eq h4, beqO_eq h5]
def AllOk [Den] (P : Program) : List (AK × Value) → Prop
  | [] => True
  | p :: l => p.1.Ok P p.2 ∧ AllOk P l
def LdsOk [Den] (P : Program) : List LdE → Prop
  | [] => True
  | e :: l => e.Ok P ∧ LdsOk P l
def AppsOk [Den] (P : Program) : List (List TypeId × Entry) → Prop
  | [] => True
  | p :: l => AppOk P p.1 p.2 ∧ AppsOk P l
theorem asmOK_of [Den] {P : Program} {l : List (AK × Value)} {lds : List LdE} {apps : List (List TypeId × Entry)} (h : AllOk P l) (h2 : LdsOk P lds) (h3 : AppsOk P apps) : @AsmOK _ P ⟨l, lds, apps⟩ := by
  refine @AsmOK.mk _ P ⟨l, lds, apps⟩ (fun k v hk => ?_) (fun e he => ?_) (fun p hp => ?_)
  · have hk' : asmFind k l = some v := hk
    clear hk
    induction l with
    | nil => cases hk'
    | cons p l ih =>
      obtain ⟨k', v'⟩ := p
      simp only [asmFind] at hk'
      cases hb : beqK k k' with
      | true => rw [hb] at hk'; cases hk'; rw [beqK_eq hb]; exact h.1
      | false => rw [hb] at hk'; exact ih h.2 hk'
  · have he' : e ∈ lds := he
    clear he
    induction lds with
    | nil => cases he'
    | cons p l ih =>
      rcases List.mem_cons.1 he' with rfl | hm
      · exact h2.1
      · exact ih h2.2 hm
  · have he' : p ∈ apps := hp
    clear hp
    induction apps with
    | nil => cases he'
    | cons q l ih =>
      rcases List.mem_cons.1 he' with rfl | hm
      · exact h3.1
      · exact ih h3.2 hm
def AKE [Den] (P : Program) : AK → Option Value
  | .bin op t a b => (match cv [] DEP a, cv [] DEP b with
    | some u, some v => bif plainB u && plainB v && (!isAggV u || !(P.eqGuardType P.depth t)) then pureRun P (binOp op t u v) else none
    | _, _ => none)
  | .un op a => (match cv [] DEP a with
    | some u => bif plainB u then pureRun P (Op.unary op u) else none
    | none => none)
  | .conv s d a => (match cv [] DEP a with
    | some u => bif isIntT P s && isIntT P d && isIntV u then pureRun P (convert s d u) else none
    | none => none)
  | .mm mx a b => (match cv [] DEP a, cv [] DEP b with
    | some u, some v => minmaxA mx [u, v]
    | _, _ => none)
  | _ => none
theorem same_nil {E E' : Env} : Same [] E E' := fun a b h => by cases h
theorem VR0.clean {E : Env} {v : Value} (h : cleanB v = true) : VR0 E v v := @VR.clean den0 E v h
theorem asm_pure [Den] {P : Program} {k : AK} {r u : Value} (h : AKE P k = some u) (hr : cv [] DEP r = some u) : k.Ok P r := by
  have res : ∀ {E : Env}, cleanB u = true → VR E r u := fun {E} hc => VR.vc (E' := E) same_nil _ (VR0.clean hc) hr
  cases k with
  | bin op t a b =>
    simp only [AKE] at h
    split at h
    · rename_i x y hx hy
      cases hp : (plainB x && plainB y && (!isAggV x || !(P.eqGuardType P.depth t))) with
      | false => rw [hp] at h; cases h
      | true =>
        rw [hp] at h
        simp only [cond_true] at h
        simp only [Bool.and_eq_true] at hp
        obtain ⟨⟨p1, p2⟩, p3⟩ := hp
        intro E a' b' ha hb xo yo w
        have ea := @VR.plain den0 E _ _ (ha.cv (E' := E) same_nil _ hx) p1
        have eb := @VR.plain den0 E _ _ (hb.cv (E' := E) same_nil _ hy) p2
        subst ea eb
        have hc := (pure_run h (quiet_bin p1 p2) default).2
        refine ⟨u, res hc, ?_⟩
        obtain ⟨h2, _⟩ := pure_run h (quiet_bin p1 p2) w
        have hguard := guard_run (P := P) (op := op) (t := t) (x := xo) (y := yo) (a := a') (b := b') (fun e => by rw [e] at p1; simp [plainB, plainS] at p1) (by
          cases hag : isAggV a' with
          | true => right; rw [hag] at p3; simpa using p3
          | false => left; intro cs e; rw [e] at hag; simp [isAggV] at hag) w
        rw [Sem.run_bind, hguard, Result.andThen_ok]; exact h2
    · cases h
  | un op a =>
    simp only [AKE] at h
    split at h
    · rename_i x hx
      cases hp : plainB x with
      | false => rw [hp] at h; cases h
      | true =>
        rw [hp] at h
        intro E a' ha w
        have ea := @VR.plain den0 E _ _ (ha.cv (E' := E) same_nil _ hx) hp
        subst ea
        exact ⟨u, res (pure_run h (quiet_un hp) default).2, (pure_run h (quiet_un hp) w).1⟩
    · cases h
  | conv s d a =>
    simp only [AKE] at h
    split at h
    · rename_i x hx
      cases hp : (isIntT P s && isIntT P d && isIntV x) with
      | false => rw [hp] at h; cases h
      | true =>
        rw [hp] at h
        simp only [cond_true] at h
        simp only [Bool.and_eq_true] at hp
        obtain ⟨⟨hs0, hd0⟩, hv0⟩ := hp
        obtain ⟨ks, hs⟩ : ∃ k, P.underlying s = some (.int k) := by
          unfold isIntT at hs0; split at hs0
          · rename_i k hk; exact ⟨k, hk⟩
          · cases hs0
        obtain ⟨kd, hd⟩ : ∃ k, P.underlying d = some (.int k) := by
          unfold isIntT at hd0; split at hd0
          · rename_i k hk; exact ⟨k, hk⟩
          · cases hd0
        cases x <;> first | (simp [isIntV] at hv0; done) | skip
        rename_i k3 m
        have hq : Quiet P (convert s d (.int k3 m)) := by
          unfold convert
          refine Quiet.bind (quiet_underlying s) fun u1 h1 => Quiet.bind (quiet_underlying d) fun u2 h2 => ?_
          obtain ⟨w1, w2, h1⟩ := h1
          obtain ⟨w3, w4, h2⟩ := h2
          rw [run_underlying hs] at h1
          rw [run_underlying hd] at h2
          cases h1; cases h2
          exact Quiet.pure _
        intro E a' ha w
        have ea := @VR.plain den0 E _ _ (ha.cv (E' := E) same_nil _ hx) rfl
        subst ea
        exact ⟨u, res (pure_run h hq default).2, (pure_run h hq w).1⟩
    · cases h
  | mm mx a b =>
    simp only [AKE] at h
    split at h
    · rename_i x y hx hy
      intro E a' b' ha hb ats ty w
      have hl : LR0 E [x, y] [a', b'] := @LR.cons den0 E _ _ _ _ (ha.cv (E' := E) same_nil _ hx) (@LR.cons den0 E _ _ _ _ (hb.cv (E' := E) same_nil _ hy) (@LR.nil den0 E))
      have hs := fun (ats : Array TypeId) (ty : TypeId) w => @minmax_sound P E den0 mx ats ty [x, y] [a', b'] u h hl w
      exact ⟨u, VR.vc (E' := E) same_nil _ (hs #[] 0 default).2 hr, (hs ats ty w).1⟩
    · cases h
  | _ => cases h
theorem asm_test [Den] {P : Program} {k : FloatKind} {i : Nat} {b : Bool} (h : Den.v i = .bool b) : (AK.test k i).Ok P (.bool b) := h.symm
theorem asm_bool [Den] {P : Program} {k : AK} {c b : Bool} (h : AKE P k = some (.bool c)) (hc : c = b) : k.Ok P (.bool b) := by
  subst hc
  exact asm_pure h rfl
section
variable {P : Program} {E : Env}
theorem VR.opq_inv [Den] {i : Nat} {v' : Value} (h : VR E (.chan (some i)) v') : VR E (Den.o i) v' := by cases h; assumption
theorem asm_nil [Den] {t e : TypeId} {i n c : Nat} {a : Option Addr} (hu : P.underlying t = some (.slice e)) (ho : Den.o i = .slice a n c) (hw : a = none → c = 0) :
    (AK.bin .eql t (.chan (some i)) (.slice none 0 0)).Ok P (.bool a.isNone) ∧ (AK.bin .neq t (.chan (some i)) (.slice none 0 0)).Ok P (.bool (!a.isNone)) := by
  have key : ∀ E a' b', VR E (.chan (some i)) a' → VR E (.slice none 0 0) b' → ∃ x m d, a' = .slice x m d ∧ x.isNone = a.isNone ∧ b' = .slice none 0 0 := by
    intro E a' b' ha hb
    cases hb
    have := ha.opq_inv
    rw [ho] at this
    cases this with
    | nilS => exact ⟨_, _, _, rfl, rfl, rfl⟩
    | weS b => exact absurd (hw rfl) (by decide)
    | anS b c => exact absurd (hw rfl) (by decide)
    | sl h1 h2 h3 => exact ⟨_, _, _, rfl, rfl, rfl⟩
  have eqr : ∀ (x : Option Addr) (m d : Nat) w, (Op.equal t (.slice x m d) (.slice none 0 0)).run P w = .ok x.isNone w := by
    intro x m d w
    show (Op.equalIn (9999 + 1) t _ _).run P w = _
    unfold Op.equalIn
    rw [Sem.run_bind, run_underlying hu, Result.andThen_ok]
    cases x <;> rfl
  constructor
  · intro E a' b' ha hb xo yo w
    obtain ⟨x, m, d, rfl, h2, rfl⟩ := key E a' b' ha hb
    refine ⟨_, .bool _, ?_⟩
    rw [Sem.run_bind, guard_run (by simp) (.inl (by simp)) w, Result.andThen_ok]
    show (do let r ← Op.equal t (.slice x m d) (.slice none 0 0); pure (Value.bool r) : Sem Value).run P w = _
    rw [Sem.run_bind, eqr, Result.andThen_ok, ← h2]; rfl
  · intro E a' b' ha hb xo yo w
    obtain ⟨x, m, d, rfl, h2, rfl⟩ := key E a' b' ha hb
    refine ⟨_, .bool _, ?_⟩
    rw [Sem.run_bind, guard_run (by simp) (.inl (by simp)) w, Result.andThen_ok]
    show (do let r ← Op.equal t (.slice x m d) (.slice none 0 0); pure (Value.bool (!r)) : Sem Value).run P w = _
    rw [Sem.run_bind, eqr, Result.andThen_ok, ← h2]; rfl
theorem asm_len [Den] {t e : TypeId} {i n c : Nat} {a : Option Addr} {r : Value} (hu : P.underlying t = some (.slice e)) (ho : Den.o i = .slice a n c) (hr : cv [] DEP r = some (.int .i64 n)) : (AK.len t (.chan (some i))).Ok P r := by
  intro E x' hx ats ty w hat
  have := hx.opq_inv
  rw [ho] at this
  have hl : ∀ (x : Option Addr) (d : Nat) (ats : Array TypeId) (ty : TypeId) w, ats[0]? = some t → (Builtin.len_ ats ty #[.slice x n d]).run P w = .ok (.int .i64 n) w := by
    intro x d ats ty w hat
    simp [Builtin.len_, hat, run_underlying hu]
    rfl
  have hv : VR E r (.int .i64 n) := VR.vc (E' := E) same_nil _ (@VR.int den0 E _ _) hr
  cases this with
  | nilS => exact ⟨_, hv, hl _ _ ats ty w hat⟩
  | weS b => exact ⟨_, hv, hl _ _ ats ty w hat⟩
  | anS b c => exact ⟨_, hv, hl _ _ ats ty w hat⟩
  | sl h1 h2 h3 => exact ⟨_, hv, hl _ _ ats ty w hat⟩
end
end Go.Sx
namespace Go.Sx
def EntsOK [Den] (P : Program) : List (FuncId × List Entry) → Prop
  | [] => True
  | (g, es) :: l => (∀ e ∈ es, EntryOK P g e) ∧ EntsOK P l
theorem EntsOK.all [Den] {P : Program} : ∀ {l : List (FuncId × List Entry)}, EntsOK P l → ∀ p ∈ l, ∀ e ∈ p.2, EntryOK P p.1 e
  | [], _, p, hp => by cases hp
  | (g, es) :: l, h, p, hp => by
    rcases List.mem_cons.1 hp with rfl | hp
    · exact h.1
    · exact h.2.all p hp
theorem Ctr.path {P : Program} (hm : P.follows .mixedOrders = true) (d : Den) (asm : Asm) (ents : List (FuncId × List Entry)) (hok : @AllOk d P asm.l) (hlds : @LdsOk d P asm.lds) (happs : @AppsOk d P asm.apps) (hent : @EntsOK d P ents) {N : Nat} {g : FuncId} {c0 : Nat} {A0 : HL} {args0 : List Value} {τ : Ren} {ros : List Nat}
    {args : List Value} {A : HL} {res : Value} {B : HL} (h1 : (nodupB (A0.map (·.1)) && injB τ && keepB A0 τ) = true) (hin : @inOf d A0 args0 = some (args, A))
    (hrun : @outOf d τ ros ((@rec asm P (tblE noTbl ents) N).call g args0 c0 (ofL A0)) = some (res, B)) : Ctr P g args A res B :=
  @Ctr.of_run d asm P (@asmOK_of d P asm.l asm.lds asm.apps hok hlds happs) hm _ (fun _ _ => @tblE_snd P _ _ d _ (@noTbl_sound d P _ _) _ hent.all) N g c0 A0 args0 τ ros args A res B h1 hin hrun
theorem EntryOK.mk [Den] {P : Program} {g : FuncId} {e : Entry} {args : List Value} {A : HL} {res : Value} {B : HL} (h : Ctr P g args A res B) (h1 : entB e = true) (h2 : entOf e = some (args, A, res, B)) : EntryOK P g e := ⟨h1, args, A, res, B, h2, h⟩
theorem asP {d : Den} {P : Program} {k : AK} {r u : Value} (h : @AKE d P k = some u) (hr : @cv d [] DEP r = some u) : @AK.Ok d P k r := @asm_pure d P k r u h hr
theorem asB {d : Den} {P : Program} {k : AK} {c b : Bool} (h : @AKE d P k = some (.bool c)) (hc : c = b) : @AK.Ok d P k (.bool b) := @asm_bool d P k c b h hc
theorem asT {d : Den} {P : Program} {k : FloatKind} {i : Nat} {b : Bool} (h : d.v i = .bool b) : @AK.Ok d P (.test k i) (.bool b) := @asm_test d P k i b h
theorem asEqN {d : Den} {P : Program} {t e : TypeId} {i n c : Nat} {a : Option Addr} (hu : P.underlying t = some (.slice e)) (ho : d.o i = .slice a n c) (hw : a = none → c = 0 := by intro h; first | rfl | cases h) : @AK.Ok d P (.bin .eql t (.chan (some i)) (.slice none 0 0)) (.bool a.isNone) := (@asm_nil P d t e i n c a hu ho hw).1
theorem asLen {d : Den} {P : Program} {t e : TypeId} {i n c : Nat} {a : Option Addr} {r : Value} (hu : P.underlying t = some (.slice e)) (ho : d.o i = .slice a n c) (hr : @cv d [] DEP r = some (.int .i64 n)) : @AK.Ok d P (.len t (.chan (some i))) r := @asm_len P d t e i n c a r hu ho hr
end Go.Sx
namespace Go.Sx
def Run {α : Type} (m : M α) (c : Nat) (h : Heap) (a : α) (c' : Nat) (h' : Heap) : Prop := ∃ L, m c h = .ok a c' h' L
theorem Run.bind {α β : Type} {m : M α} {f : α → M β} {c c1 c2 : Nat} {h h1 h2 : Heap} {a : α} {b : β} (hm : Run m c h a c1 h1) (hf : Run (f a) c1 h1 b c2 h2) : Run (M.bind m f) c h b c2 h2 := by
  obtain ⟨l1, k1⟩ := hm
  obtain ⟨l2, k2⟩ := hf
  exact ⟨_, bind_ok.2 ⟨_, _, _, _, _, k1, k2, rfl⟩⟩
theorem Run.pure {α : Type} {a : α} {c : Nat} {h : Heap} : Run (M.pure a) c h a c h := ⟨_, pure_ok.2 ⟨rfl, rfl, rfl, rfl⟩⟩
theorem Run.opt {α : Type} {n : Nat} {o : Option α} {a : α} {c : Nat} {h : Heap} (ho : o = some a) : Run (optM n o) c h a c h := ⟨_, opt_ok.2 ⟨ho, rfl, rfl, rfl⟩⟩
theorem Run.guard {n : Nat} {b : Bool} {c : Nat} {h : Heap} (hb : b = true) : Run (guardM n b) c h () c h := ⟨_, guard_ok.2 ⟨hb, rfl, rfl, rfl⟩⟩
theorem Run.rdB {i o n c : Nat} {H : Heap} {T : TypeId} {l : List Value} {ro : Bool} (hi : H.get i = some (.row T (.lst l) ro)) (hl : o + n ≤ l.length) : Run (rdB i o n) c H ((l.drop o).take n) c H := by
  unfold Run Sx.rdB
  rw [hi]
  simp only [Cells.ext, lenL_eq, takL_eq, droL_eq, Nat.add_eq]
  rw [Nat.ble_eq_true_of_le hl]
  exact ⟨_, rfl⟩
theorem Run.newA {o : AObj} {c : Nat} {H : Heap} (hc : H.get c = none) : Run (newA o) c H c (c + 1) (H.set c o) := by
  unfold Run Sx.newA
  rw [hc]
  exact ⟨_, rfl⟩
theorem Run.growA {i c : Nat} {T : TypeId} {new : List Value} {cs : Cells} {H : Heap} (hi : H.get i = some (.row T cs false)) (hc : H.get c = none) : Run (growA i T new) c H c (c + 1) ((H.set i .dead).set c (.row T (cs.app new) false)) := by
  unfold Run Sx.growA
  rw [hi]
  simp only
  rw [hc]
  simp only [Nat.beq_refl, cond_true]
  exact ⟨_, rfl⟩
theorem Run.info {i c : Nat} {T : TypeId} {cs : Cells} {ro : Bool} {H : Heap} (hi : H.get i = some (.row T cs ro)) : Run (info i) c H (T, cs.len, ro) c H := by
  unfold Run Sx.info
  rw [hi]
  exact ⟨_, rfl⟩
structure ElemT (P : Program) (st xt e : TypeId) (size bytes : Nat) (z : Value) : Prop where
  el : sliceElem P st = some e
  sz : sizeB P e = some size
  by' : bytesB P e = some bytes
  ze : zeroB P e = some z
  ok : (Nat.blt 0 size && !isIntT P xt && (P.underlying xt).isSome && Nat.beq z.cells.size size) = true
theorem app_all {l : List Value} (h : l.all plainS = true) : l.all oneB = true := by
  rw [List.all_eq_true] at h ⊢
  exact fun x hx => oneB_plain (h x hx)
theorem mk_get (l : List Value) (k : Nat) : (mkCells l).get k = l[k]? := mkCells_get l k
section
variable {P : Program} {st xt e : TypeId} {size bytes : Nat} {z : Value}
theorem need_ok {n bytes : Nat} (h1 : n * bytes ≤ 70368744177664) (h2 : n < HALF) : (Nat.ble (n * bytes) 70368744177664 && Nat.blt n HALF) = true := by
  rw [Nat.ble_eq_true_of_le h1, blt_iff.2 h2]; rfl
theorem app_nil {q : Nat} (hq : Nat.ble q 1 = true) (ht : ElemT P st xt e size bytes z) {H : Heap} {i o m cp c : Nat} {T : TypeId} {l : List Value} {ro : Bool} (hi : H.get i = some (.row T (.lst l) ro)) (hc : H.get c = none) (hm : 1 ≤ m) (hl : o + m * size ≤ l.length) (hp : l.all plainS = true)
    (h1 : m * bytes ≤ 70368744177664) (h2 : m < HALF) :
    Run (appendA P [st, xt] [.slice none 0 q, .slice (some ⟨i, o, none⟩) m cp]) c H (.slice (some ⟨c, 0, none⟩) m INF) (c + 1) (H.set c (.row e (mkCells ((l.drop o).take (m * size))) false)) := by
  have hnew : ((l.drop o).take (m * size)).all oneB = true := by
    refine app_all ?_
    rw [List.all_eq_true] at hp ⊢
    exact fun x hx => hp x (List.mem_of_mem_drop (List.mem_of_mem_take hx))
  unfold appendA
  refine Run.bind (Run.opt ht.el) (Run.bind (Run.opt ht.sz) (Run.bind (Run.opt ht.by') (Run.bind (Run.opt ht.ze) (Run.bind (Run.guard ht.ok) (Run.bind (Run.opt rfl) ?_)))))
  have hb : Nat.beq m 0 = false := by
    cases hb : Nat.beq m 0 with
    | false => rfl
    | true => have := beq_iff.1 hb; omega
  rw [hb]
  simp only [cond_false, Nat.zero_add]
  refine Run.bind (Run.guard (need_ok h1 h2)) (Run.bind (Run.rdB hi hl) (Run.bind (Run.guard hnew) ?_))
  simp only [hq, cond_true]
  exact Run.bind (Run.newA hc) Run.pure
theorem app_inf (ht : ElemT P st xt e size bytes z) {H : Heap} {i o m cp c b n : Nat} {T : TypeId} {l bl : List Value} {ro : Bool} (hi : H.get i = some (.row T (.lst l) ro)) (hb0 : H.get b = some (.row e (.lst bl) false)) (hc : H.get c = none) (hm : 1 ≤ m) (hl : o + m * size ≤ l.length) (hp : l.all plainS = true)
    (hbl : bl.length = n * size) (h1 : (n + m) * bytes ≤ 70368744177664) (h2 : n + m < HALF) :
    Run (appendA P [st, xt] [.slice (some ⟨b, 0, none⟩) n INF, .slice (some ⟨i, o, none⟩) m cp]) c H (.slice (some ⟨c, 0, none⟩) (n + m) INF) (c + 1) ((H.set b .dead).set c (.row e (mkCells (bl ++ (l.drop o).take (m * size))) false)) := by
  have hnew : ((l.drop o).take (m * size)).all oneB = true := by
    refine app_all ?_
    rw [List.all_eq_true] at hp ⊢
    exact fun x hx => hp x (List.mem_of_mem_drop (List.mem_of_mem_take hx))
  unfold appendA
  refine Run.bind (Run.opt ht.el) (Run.bind (Run.opt ht.sz) (Run.bind (Run.opt ht.by') (Run.bind (Run.opt ht.ze) (Run.bind (Run.guard ht.ok) (Run.bind (Run.opt rfl) ?_)))))
  have hb : Nat.beq m 0 = false := by
    cases hb : Nat.beq m 0 with
    | false => rfl
    | true => have := beq_iff.1 hb; omega
  rw [hb]
  simp only [cond_false]
  refine Run.bind (Run.guard (need_ok h1 h2)) (Run.bind (Run.rdB hi hl) (Run.bind (Run.guard hnew) ?_))
  have hk : knownCap INF = false := by decide
  rw [hk]
  simp only [cond_false]
  refine Run.bind (Run.info hb0) ?_
  simp only [Nat.sub_self, Nat.zero_mul, Nat.zero_add, Cells.len, lenL_eq, hbl]
  refine Run.bind (Run.guard ?_) ?_
  · simp [Nat.beq_refl]
  · simp only [Nat.beq_refl, cond_true]
    refine Run.bind (Run.growA hb0 hc) ?_
    have : (Cells.lst bl).app ((l.drop o).take (m * size)) = mkCells (bl ++ (l.drop o).take (m * size)) := by simp only [Cells.app, appL_eq]
    rw [this]
    exact Run.pure
theorem app_cap (ht : ElemT P st xt e size bytes z) {H : Heap} {i o m cp c b n : Nat} {T Tb : TypeId} {l bl : List Value} {ro rb : Bool} (hi : H.get i = some (.row T (.lst l) ro)) (hb0 : H.get b = some (.row Tb (.lst bl) rb)) (hc : H.get c = none) (hm : 1 ≤ m) (hl : o + m * size ≤ l.length) (hp : l.all plainS = true) (hpb : bl.all plainS = true)
    (hbl : bl.length = n * size) (h1 : (n + m) * bytes ≤ 70368744177664) (h2 : n + m < HALF) :
    Run (appendA P [st, xt] [.slice (some ⟨b, 0, none⟩) n n, .slice (some ⟨i, o, none⟩) m cp]) c H (.slice (some ⟨c, 0, none⟩) (n + m) INF) (c + 1) (H.set c (.row e (mkCells (bl ++ (l.drop o).take (m * size))) false)) := by
  have hnew : ((l.drop o).take (m * size)).all oneB = true := by
    refine app_all ?_
    rw [List.all_eq_true] at hp ⊢
    exact fun x hx => hp x (List.mem_of_mem_drop (List.mem_of_mem_take hx))
  unfold appendA
  refine Run.bind (Run.opt ht.el) (Run.bind (Run.opt ht.sz) (Run.bind (Run.opt ht.by') (Run.bind (Run.opt ht.ze) (Run.bind (Run.guard ht.ok) (Run.bind (Run.opt rfl) ?_)))))
  have hb : Nat.beq m 0 = false := by
    cases hb : Nat.beq m 0 with
    | false => rfl
    | true => have := beq_iff.1 hb; omega
  rw [hb]
  simp only [cond_false]
  refine Run.bind (Run.guard (need_ok h1 h2)) (Run.bind (Run.rdB hi hl) (Run.bind (Run.guard hnew) ?_))
  have hk : knownCap n = true := blt_iff.2 (by omega)
  rw [hk]
  simp only [cond_true]
  have hle : Nat.ble (n + m) n = false := by
    cases hb : Nat.ble (n + m) n with
    | false => rfl
    | true => have := Nat.le_of_ble_eq_true hb; omega
  rw [hle]
  simp only [cond_false]
  have hbt : (bl.drop 0).take (n * size) = bl := by rw [List.drop_zero, ← hbl, List.take_length]
  have hr : Run (rdB b 0 (n * size)) c H bl c H := by
    have := Run.rdB (c := c) (o := 0) (n := n * size) hb0 (by omega)
    rw [hbt] at this; exact this
  exact Run.bind hr (Run.bind (Run.guard (app_all hpb)) (Run.bind (Run.newA hc) Run.pure))
def Weaker (o' o : AObj) : Prop := o = .dead ∨ ∃ T cs l ro ro', o' = .row T cs ro' ∧ o = .row T (.lst l) ro ∧ (ro = false → ro' = false) ∧ (∀ (k : Nat) v, l[k]? = some v → cs.get k = some v) ∧ l.all plainS = true
theorem HR0.pick {w0 : World} {F : Nat → Prop} {E : Env} {H : Heap} {w : World} (hr : HR0 P w0 F E H w) {B : HL} (hB : ∀ b o, lkL B b = some o → ∃ o', H.get b = some o' ∧ Weaker o' o) : HR0 P w0 F (fun i => if (lkL B i).isSome = true then E i else none) (ofL B) w := by
  have hk := @HR.keeps den0 _ _ _ _ _ _ hr
  have hobj := @HR.obj den0 _ _ _ _ _ _ hr
  have hinj := @HR.inj den0 _ _ _ _ _ _ hr
  have hown := @HR.own den0 _ _ _ _ _ _ hr
  have hE : ∀ {i : Nat} {x : EI}, (if (lkL B i).isSome = true then E i else none) = some x → E i = some x := fun {i x} h => by
    split at h
    · exact h
    · cases h
  have hl : ∀ {o' o : AObj}, Weaker o' o → live o = true → live o' = true ∧ (writable o = true → writable o' = true) := by
    rintro o' o (rfl | ⟨T, cs, l, ro, ro', rfl, rfl, h, _⟩) hl
    · cases hl
    · refine ⟨rfl, fun hw => ?_⟩
      simp only [writable, Bool.not_eq_true'] at hw ⊢
      exact h hw
  refine @HR.mk den0 _ _ _ _ _ _ hk (fun i x hx => ?_) (fun b o ho => ?_) (fun i j o p x y hne ho hp hlo hlp hw hx hy => ?_) (fun b o x ho hw hx => ?_)
  · split at hx
    · rename_i h
      rw [get_ofL]
      intro hn
      rw [hn] at h; cases h
    · cases hx
  · rw [get_ofL] at ho
    obtain ⟨o', h1, h2⟩ := hB b o ho
    rcases h2 with rfl | ⟨T, cs, l, ro, ro', rfl, rfl, h3, h4, h5⟩
    · trivial
    · obtain ⟨x, cells, k1, k2, k3, k4⟩ := hobj b _ h1
      refine ⟨x, cells, by show (if (lkL B b).isSome = true then E b else none) = _; rw [if_pos (by rw [ho]; rfl)]; exact k1, k2.to h3, fun hq => k3 (h3 hq), fun k v hk => ?_⟩
      rw [get_lst] at hk
      obtain ⟨v', m1, m2, m3⟩ := k4 k v (h4 k v hk)
      have hpv := List.all_eq_true.1 h5 v (List.mem_of_getElem? hk)
      have := @VR.plainS den0 E _ _ m2 hpv
      subst this
      refine ⟨v', m1, @VR.cleanS den0 _ _ ?_, m3⟩
      cases v' <;> first | rfl | (simp [plainS] at hpv)
  · rw [get_ofL] at ho hp
    obtain ⟨o', h1, h2⟩ := hB i o ho
    obtain ⟨p', g1, g2⟩ := hB j p hp
    obtain ⟨a1, a2⟩ := hl h2 hlo
    obtain ⟨b1, b2⟩ := hl g2 hlp
    exact hinj i j o' p' x y hne h1 g1 a1 b1 (hw.imp a2 b2) (hE hx) (hE hy)
  · rw [get_ofL] at ho
    obtain ⟨o', h1, h2⟩ := hB b o ho
    have hlo : live o = true := by cases o <;> first | rfl | cases hw
    exact hown b o' x h1 ((hl h2 hlo).2 hw) (hE hx)
theorem AppC.of_run {ats : List TypeId} {args : List Value} {A B : HL} {i n cp c c' : Nat} {H' : Heap} (hrun : Run (appendA P ats args) c (ofL A) (.slice (some ⟨i, 0, none⟩) n cp) c' H') (hB : ∀ b o, lkL B b = some o → ∃ o', H'.get b = some o' ∧ Weaker o' o) (hi : (lkL B i).isSome = true) :
    AppC P ats args A (.slice (some ⟨i, 0, none⟩) n cp) B := by
  intro w F E args' ty at' hr hl hat
  obtain ⟨L, hrun⟩ := hrun
  subst hat
  obtain ⟨v', w', E', k1, k2, k3, k4⟩ := @append_sound P w F E (ofL A) w den0 at' ty args args' _ c c' H' L hrun hr hl
  refine ⟨v', w', _, k1, fun j x hj hb => ?_, HR0.pick k3 hB, ?_⟩
  · show (if (lkL B j).isSome = true then E' j else none) = _
    rw [if_pos hb]; exact k2 _ _ hj
  · cases k4 with
    | sl h1 h2 h3 => exact @VR.sl den0 _ _ _ _ _ _ _ (by show (if (lkL B i).isSome = true then E' i else none) = _; rw [if_pos hi]; exact h1) h2 h3
end
end Go.Sx
namespace Go.Sx
def rs [Den] : Value → Value
  | .chan (some k) => Den.o k
  | .float _ i => Den.v i
  | v => v
section
variable {P : Program} {E : Env}
theorem plain_clean {v : Value} (h : plainS v = true) : cleanS v = true := by cases v <;> first | rfl | cases h
theorem VR.rs [Den] {v v' : Value} (h : VR E v v') : VR E (rs v) v' := by
  cases h with
  | opq k h => exact h
  | sym k i h => subst h; exact VR.cleanS (plain_clean (Den.plain i))
  | ssl k h1 h2 h3 h4 h5 h6 => exact .ssl k h1 h2 h3 h4 h5 h6
  | bool b => exact .bool b
  | int k n => exact .int k n
  | str s => exact .str s
  | nilP => exact .nilP
  | nilS => exact .nilS
  | weS b => exact .weS b
  | anS b c => exact .anS b c
  | nilM => exact .nilM
  | nilF => exact .nilF
  | nilI => exact .nilI
  | ptr h => exact .ptr h
  | sl h1 h2 h3 => exact .sl h1 h2 h3
  | map h => exact .map h
  | fn h1 h2 h3 h4 => exact .fn h1 h2 h3 h4
  | yl h => exact .yl h
  | agg h1 h2 => exact .agg h1 h2
  | tup h1 h2 => exact .tup h1 h2
theorem VR.ofRs [Den] {v v' : Value} (h : VR E (Sx.rs v) v') : VR E v v' := by
  cases v with
  | chan k => cases k with
    | none => exact h
    | some k => exact .opq k h
  | float k i => exact .sym k i (VR.plainS h (Den.plain i))
  | _ => exact h
theorem optR_rs [Den] {x y : Option Value} (h : OptR E x y) : OR E (x.map rs) y := by
  cases x with
  | none => cases h; exact .none
  | some a => obtain ⟨b, rfl, hb⟩ := h; exact .some hb.rs
theorem asm_ixa {d : Den} {t : TypeId} {x i r : Value} (h : indexAddrA P t (@rs d x) (@rs d i) = some (@rs d r)) : @AK.Ok d P (.ixa t x i) r := by
  intro E x' i' hx hi w
  obtain ⟨v', h1, h2⟩ := indexAddr_sound (P := P) (E := E) (w := w) h hx.rs hi.rs
  exact ⟨v', h2.ofRs, h1⟩
theorem asm_sli {d : Den} {t : TypeId} {x r : Value} {lo hi mx : Option Value} (h : sliceA P t (@rs d x) (lo.map (@rs d)) (hi.map (@rs d)) (mx.map (@rs d)) = some (@rs d r)) : @AK.Ok d P (.sli t x lo hi mx) r := by
  intro E x' lo' hi' mx' hx hl hh hm w
  obtain ⟨v', h1, h2⟩ := slice_sound (P := P) (E := E) h hx.rs (optR_rs hl) (optR_rs hh) (optR_rs hm) w
  exact ⟨v', h2.ofRs, h1⟩
theorem ixa_slice {t el : TypeId} {n len c : Nat} {b o : Nat} {k : IntKind} {q : Int} (hu : P.underlying t = some (.slice el)) (hn : sizeB P el = some n) (h1 : 0 ≤ q) (h2 : q < len) :
    indexAddrA P t (.slice (some ⟨b, o, none⟩) len c) (.int k q) = some (.pointer (some ⟨b, o + q.toNat * n, none⟩)) := by
  unfold indexAddrA
  simp only [hu, hn]
  rw [show inB q len = true from inB_iff.2 ⟨h1, h2⟩, add_eq]
  rfl
theorem asIxa {d : Den} {t el : TypeId} {n len c a i r b o off : Nat} {fk : FloatKind} {k : IntKind} {q : Int} (hu : P.underlying t = some (.slice el)) (hn : sizeB P el = some n) (ho : d.o a = .slice (some ⟨b, o, none⟩) len c) (hv : d.v i = .int k q) (h1 : 0 ≤ q) (h2 : q < len)
    (hr : d.o r = .pointer (some ⟨b, off, none⟩)) (hoff : off = o + q.toNat * n) : @AK.Ok d P (.ixa t (.chan (some a)) (.float fk i)) (.chan (some r)) := by
  refine asm_ixa ?_
  show indexAddrA P t (d.o a) (d.v i) = some (d.o r)
  rw [ho, hv, hr, hoff]
  exact ixa_slice hu hn h1 h2
theorem asIxArr {d : Den} {t el : TypeId} {n len id base i r off : Nat} {fk : FloatKind} {k : IntKind} {q : Int} (hu : P.underlying t = some (.array len el)) (hn : sizeB P el = some n) (hv : d.v i = .int k q) (h1 : 0 ≤ q) (h2 : q < len)
    (hr : d.o r = .pointer (some ⟨id, off, none⟩)) (hoff : off = base + q.toNat * n) : @AK.Ok d P (.ixa t (.pointer (some ⟨id, base, none⟩)) (.float fk i)) (.chan (some r)) := by
  refine asm_ixa ?_
  show indexAddrA P t (.pointer (some ⟨id, base, none⟩)) (d.v i) = some (d.o r)
  rw [hv, hr, hoff]
  unfold indexAddrA
  simp only [hu, hn]
  rw [show inB q len = true from inB_iff.2 ⟨h1, h2⟩, add_eq]
  rfl
theorem rowAt {d : Den} {w0 : World} {F : Nat → Prop} {E : Env} {H : Heap} {w : World} {i j : Nat} {T : TypeId} {ro : Bool} {e : EI} (hr : @HR d P w0 F E H w) (h : H.get i = some (.orow T j ro) ∨ H.get i = some (.mrow T j ro)) (he : E i = some e) :
    ∃ e cells, E i = some e ∧ CAt w e.blk T cells ro ∧ (ro = false → ∀ n, sizeB P T = some n → e.off + e.cap * n ≤ cells.size) ∧ ∀ k v, (d.row j)[k]? = some v → cells[e.off + k]? = some v := by
  rcases h with h | h
  · exact @HR.obj d _ _ _ _ _ _ hr i _ h
  · rcases @HR.obj d _ _ _ _ _ _ hr i _ h with ⟨h1, _⟩ | h1
    · rw [he] at h1; cases h1
    · exact h1
theorem ld_agg {d : Den} {t k id j n off : Nat} {v : Value} {vs ws : List Value} (ha : aggB P t = some true) (hs : sizeB P t = some n) (ho : d.o k = .pointer (some ⟨id, off, none⟩)) (hl : off + n ≤ (d.row j).length) (hw : ((d.row j).drop off).take n = ws)
    (hv : v = .agg vs.toArray) (hcv : mapO (@cv d [] 5) vs = some ws) : @LdE.Ok d P ⟨t, k, id, j, v⟩ := by
  subst hv
  intro w0 F E H w T ro a' hr hx hva
  simp only at hx hva ⊢
  have hva := @VR.opq_inv E d k a' hva
  rw [ho] at hva
  cases hva with
  | ptr he =>
    rename_i e
    obtain ⟨e', cells, h1, h2, h3, h4⟩ := rowAt hr hx he
    rw [he] at h1; cases h1
    have hcell : ∀ q u, ws[q]? = some u → cells[e.off + (off + q)]? = some u := by
      intro q u hq
      refine h4 (off + q) u ?_
      rw [← hw] at hq
      rw [List.getElem?_take] at hq
      split at hq
      · rw [List.getElem?_drop] at hq; exact hq
      · cases hq
    have hlen : ws.length = n := by rw [← hw]; simp; omega
    have hcells : ∀ (q : Nat) u, ws[q]? = some u → w.cell? ⟨e.blk, e.off + off + q, none⟩ = some u := by
      intro q u hq
      refine cell_of_row h2.frz.choose_spec.choose_spec ?_
      rw [Nat.add_assoc]
      exact hcell q u hq
    refine ⟨.agg ws.toArray, ?_, ?_⟩
    · simp only [Instr.loadAt, Instr.sureAddr, loadVar, Sem.run_bind, Sem.run_pure, Result.andThen_ok, run_agg ha, if_true, run_size hs]
      rw [← hlen, run_cells hcells]; rfl
    · exact @VR.agg_of d E _ _ (by
        have : LR0 E ws ws := @LR.cleanL den0 E ws (by
          rw [List.all_eq_true]
          intro x hx
          rw [← hw] at hx
          have := List.all_eq_true.1 (d.rowPlain j) x (List.mem_of_mem_drop (List.mem_of_mem_take hx))
          exact plain_clean this)
        have := LR.vc (τ := []) (E := E) (E' := E) same_nil this hcv
        simpa using this)
end
end Go.Sx
namespace Go.Sx
def Anch (an : List Nat) (E0 E : Env) : Prop := ∀ i ∈ an, ∀ x, E0 i = some x → E i = some x
theorem Anch.le {an : List Nat} {E0 E E' : Env} (h : Anch an E0 E) (hle : E.le E') : Anch an E0 E' := fun i hi x hx => hle _ _ (h i hi x hx)
section
variable {P : Program} {w0 : World} {F : Nat → Prop} {Fe : Fence} {n : Nat} {Q : Exit → Act → World → Prop} {an : List Nat} {E0 : Env}
def GoodA [Den] (P : Program) (w0 : World) (F : Nat → Prop) (Fe : Fence) (n : Nat) (Q : Exit → Act → World → Prop) (an : List Nat) (E0 : Env) (x : Cfg) : Prop :=
  ∀ E a w, Anch an E0 E → FR E Fe.round x.f a → HR P w0 F E x.h w → post Fe n P Q x.k x.e a w
theorem execK_soundA [Den] {r : Rec} (he : ExecSnd P w0 F r) (hW : Wd Fe) {cd : Code} {x y : Cfg} {k : List KI} (h : execK r cd x k = some y) (hg : GoodA P w0 F Fe n Q an E0 y) {E : Env} {a : Act} {w : World}
    (ha : Anch an E0 E) (hf : FR E Fe.round x.f a) (hr : HR P w0 F E x.h w) : cd.wpIn Fe n P (post Fe n P Q k) a w := by
  unfold execK at h
  cases hx : r.exec cd x.f x.c x.h with
  | bad m => rw [hx] at h; cases h
  | ok ef c' h' L =>
    obtain ⟨e, f'⟩ := ef
    rw [hx] at h
    simp only [Option.some.injEq] at h
    subst h
    exact (he cd Fe n _ E x.h w x.f f' e a _ _ _ _ hW hx hf hr fun E' a' w' hle hr' hf' => hg E' a' w' (ha.le hle) hf' hr').1
theorem kstep_soundA [Den] {r : Rec} (he : ExecSnd P w0 F r) (hW : Wd Fe) {x y : Cfg} (h : kstep r x = some y) (hg : GoodA P w0 F Fe n Q an E0 y) : GoodA P w0 F Fe n Q an E0 x := by
  obtain ⟨k, e, f, c, H⟩ := x
  intro E a w ha hf hr
  simp only at hf hr ⊢
  cases k with
  | nil => cases e <;> simp [kstep] at h
  | cons i k =>
    have pass : ∀ {y'}, y' = some y → y' = some (⟨k, e, f, c, H⟩ : Cfg) → post Fe n P Q k e a w := fun h1 h2 => by
      rw [h2] at h1
      cases h1
      exact hg E a w ha hf hr
    cases e with
    | normal =>
      cases i with
      | code cd =>
        show cd.wpIn Fe n P (post Fe n P Q k) a w
        cases cd
        case seq p q =>
          cases h
          refine wpIn_seq (wpIn_mono (hg E a w ha hf hr) fun e a' w' hp => ?_)
          cases e <;> exact hp
        case block id b =>
          cases h
          refine wpIn_block (wpIn_mono (hg E a w ha hf hr) fun e a' w' hp => ?_)
          cases e <;> exact hp
        case loop b =>
          cases h
          refine wpIn_of_loop (loopWp_round (wpIn_mono (hg E a w ha hf hr) fun e a' w' hp => ?_))
          cases e <;> exact hp
        case cond q t u =>
          have h' : (bif hasLoop t || hasLoop u then knormC r ⟨_, .normal, f, c, H⟩ k q t u else execK r (.cond q t u) ⟨_, .normal, f, c, H⟩ k) = some y := h
          cases hb : hasLoop t || hasLoop u with
          | false => rw [hb] at h'; exact execK_soundA he hW (x := ⟨_, .normal, f, c, H⟩) h' hg ha hf hr
          | true =>
            rw [hb] at h'
            simp only [cond_true, knormC] at h'
            split at h'
            · rename_i t1 c1 H1 L1 hv
              have e1 := eval_sound hf hv
              have e2 : a.eval q = .bool t1 := by
                generalize a.eval q = gv at e1
                cases e1; rfl
              cases h'
              refine wpIn_cond e2 ?_
              have := hg E a w ha hf hr
              cases t1
              · exact this
              · exact this
            · exact execK_soundA he hW (x := ⟨_, .normal, f, c, H⟩) h' hg ha hf hr
        case scope b =>
          have h' : (bif hasLoop b then some (⟨.code b :: .scp :: k, .normal, f, c, H⟩ : Cfg) else execK r (.scope b) ⟨_, .normal, f, c, H⟩ k) = some y := h
          cases hb : hasLoop b with
          | false => rw [hb] at h'; exact execK_soundA he hW (x := ⟨_, .normal, f, c, H⟩) h' hg ha hf hr
          | true =>
            rw [hb] at h'
            cases h'
            refine wpIn_scope_straight (wpIn_mono (hg E a w ha hf hr) fun e a' w' hp => ?_)
            cases e <;> exact hp
        all_goals exact execK_soundA he hW (x := ⟨_, .normal, f, c, H⟩) h hg ha hf hr
      | blk id => exact pass h rfl
      | scp => cases h; exact hg E a w ha hf hr
      | lp b =>
        cases h
        refine loopWp_round (wpIn_mono (hg E a w ha hf hr) fun e a' w' hp => ?_)
        cases e <;> exact hp
    | exit id' =>
      cases i with
      | code cd => exact pass h rfl
      | lp b => exact pass h rfl
      | scp => exact pass h rfl
      | blk id =>
        cases h
        have := hg E a w ha hf hr
        show if id' = id then post Fe n P Q k .normal a w else post Fe n P Q k (.exit id') a w
        simp only at this
        split at this <;> rename_i hi
        · rw [if_pos hi]; exact this
        · rw [if_neg hi]; exact this
    | goto l => cases h
    | ret => cases i <;> exact pass h rfl
    | panic ch => cases i <;> exact pass h rfl
    | outgrown => cases i <;> exact pass h rfl
theorem ksteps_soundA [Den] {r : Rec} (he : ExecSnd P w0 F r) (hW : Wd Fe) : ∀ {m : Nat} {x y : Cfg}, ksteps r m x = some y → GoodA P w0 F Fe n Q an E0 y → GoodA P w0 F Fe n Q an E0 x
  | 0, x, y, h, hg => by cases h; exact hg
  | m + 1, x, y, h, hg => by
    simp only [ksteps] at h
    cases hk : kstep r x with
    | none => rw [hk] at h; cases h
    | some z => rw [hk] at h; exact kstep_soundA he hW hk (ksteps_soundA he hW h hg)
abbrev FV := List (Nat × Value)
noncomputable def ofV : FV → Tr Value
  | [] => .nil
  | (k, v) :: l => (ofV l).set k v
def lkV : FV → Nat → Option Value
  | [], _ => none
  | (i, v) :: l, k => bif Nat.beq i k then some v else lkV l k
theorem get_ofV : ∀ (l : FV) (k : Nat), (ofV l).get k = lkV l k
  | [], k => rfl
  | (i, o) :: l, k => by
    simp only [ofV, Tr.get_set, lkV, get_ofV l k]
    cases hb : Nat.beq i k with
    | true => have := beq_iff.1 hb; subst this; simp
    | false => rw [if_neg (fun e => by subst e; rw [Nat.beq_refl] at hb; cases hb)]; rfl
noncomputable def cvV [Den] (τ : Ren) (t : Tr Value) : List Nat → Option FV
  | [] => some []
  | k :: l => match t.get k with
    | none => none
    | some v => match cv τ DEP v, cvV τ t l with
      | some u, some r => some ((k, u) :: r)
      | _, _ => none
theorem cvV_get [Den] {τ : Ren} {t : Tr Value} : ∀ {l : List Nat} {V : FV}, cvV τ t l = some V → ∀ {k : Nat} {u : Value}, lkV V k = some u → ∃ v, t.get k = some v ∧ cv τ DEP v = some u
  | [], V, h, k, u, hu => by cases h; cases hu
  | j :: l, V, h, k, u, hu => by
    simp only [cvV] at h
    split at h
    · cases h
    · rename_i v hv
      split at h
      · rename_i u0 r h1 h2
        cases h
        simp only [lkV] at hu
        cases hb : Nat.beq j k with
        | true => rw [hb] at hu; cases hu; have := beq_iff.1 hb; subst this; exact ⟨v, hv, h1⟩
        | false => rw [hb] at hu; exact cvV_get h2 hu
      · cases h
theorem cvV_has [Den] {τ : Ren} {t : Tr Value} : ∀ {l : List Nat} {V : FV}, cvV τ t l = some V → ∀ {k : Nat}, k ∈ l → ∃ u, lkV V k = some u
  | [], V, h, k, hk => by cases hk
  | j :: l, V, h, k, hk => by
    simp only [cvV] at h
    split at h
    · cases h
    · rename_i v hv
      split at h
      · rename_i u0 r h1 h2
        cases h
        simp only [lkV]
        cases hb : Nat.beq j k with
        | true => exact ⟨_, rfl⟩
        | false =>
          rcases List.mem_cons.1 hk with rfl | hk
          · rw [Nat.beq_refl] at hb; cases hb
          · exact cvV_has h2 hk
      · cases h
theorem lkV_mem : ∀ {l : FV} {k : Nat} {v : Value}, lkV l k = some v → k ∈ l.map (·.1)
  | [], k, v, h => by cases h
  | (i, u) :: l, k, v, h => by
    simp only [lkV] at h
    cases hb : Nat.beq i k with
    | true => have := beq_iff.1 hb; subst this; simp
    | false => rw [hb] at h; exact List.mem_cons_of_mem _ (lkV_mem h)
structure Snap where
  k : List KI
  e : Exit
  n : Nat
  B : HL
  V : FV
noncomputable def snap [Den] (τ : Ren) (ros slots : List Nat) (x : Cfg) : Option Snap := match x.f with
  | ⟨t, n, none, []⟩ => (match cvH τ ros x.h τ, cvV τ t slots with
    | some B, some V => some ⟨x.k, x.e, n, B, V⟩
    | _, _ => none)
  | _ => none
noncomputable def headC (k : List KI) (e : Exit) (fv : FV) (n c : Nat) (A : HL) : Cfg := ⟨k, e, ⟨ofV fv, n, none, []⟩, c, ofL A⟩
theorem GoodA.rebase {d1 d2 : Den} {x : Cfg} {τ : Ren} {ros : List Nat} {k : List KI} {e : Exit} {fv : FV} {m c : Nat} {A : HL} {s : Snap} (h1 : @snap d1 τ ros (fv.map (·.1)) x = some s) (h2 : @snap d2 (idR A) [] (fv.map (·.1)) (headC k e fv m c A) = some s)
    (hb : (nodupB (A.map (·.1)) && injB τ && an.all (fun i => match lkR τ i with
      | some a => Nat.beq a i
      | none => false)) = true) (hg : @GoodA d2 P w0 F Fe n Q an E0 (headC k e fv m c A)) : @GoodA d1 P w0 F Fe n Q an E0 x := by
  simp only [Bool.and_eq_true, List.all_eq_true] at hb
  obtain ⟨⟨b1, b2⟩, b3⟩ := hb
  obtain ⟨xk, xe, ⟨xt, xn, xro, xds⟩, xc, xh⟩ := x
  intro E a w ha hf hr
  simp only [snap] at h1
  cases xro with
  | some l => cases h1
  | none =>
  cases xds with
  | cons y ys => cases h1
  | nil =>
  simp only at h1
  split at h1
  · rename_i B V hB hV
    cases h1
    simp only [snap, headC] at h2
    split at h2
    · rename_i B2 V2 hB2 hV2
      simp only [Option.some.injEq, Snap.mk.injEq] at h2
      obtain ⟨e1, e2, e3, e4, e5⟩ := h2
      subst e1 e2 e3 e4 e5
      have k1 := @HR.cv P w0 F E xh w d1 hr τ ros B2 b2 hB
      have k2 := @HR.vc P w0 F (envOf τ E) w d2 A B2 k1 b1 hB2
      have hsz : a.tmps.size = m := @TR.size d1 E ⟨xt, m, none, []⟩ a.tmps (@FR.tr d1 E Fe.round ⟨xt, m, none, []⟩ a hf)
      refine hg _ a w (fun i hi x hx => ?_) (@FR.mk d2 _ _ _ _ ?_ ?_ (@TR.mk d2 _ _ _ hsz fun j v hj => ?_)) k2
      · have := b3 i hi
        cases hl : lkR τ i with
        | none => rw [hl] at this; cases this
        | some a0 =>
          rw [hl] at this
          have h5 := beq_iff.1 this
          subst h5
          obtain ⟨o', ho'⟩ := @cvH_has d1 _ _ _ _ _ hB _ _ hl
          obtain ⟨a1, o1, g1, g2, _⟩ := @cvH_get d2 _ _ _ _ _ hB2 _ _ ho'
          have := lkR_id g1; subst this
          rw [get_ofL] at g2
          unfold envTo envOf
          rw [lk_id_of_get g2]
          simp only [Option.bind_some, hl]
          exact ha _ hi x hx
      · have h3 := @FR.defers d1 _ _ _ _ hf
        have hnil : ∀ {D : List Deferred}, @DsR d1 E [] D → D = [] := fun h => by cases h; rfl
        rw [hnil h3]
        exact .nil
      · have h3 := @FR.ro d1 _ _ _ _ hf
        have hnon : ∀ {R : Option Nat}, RoR E none R → R = none := fun h => by cases h; rfl
        rw [hnon h3]
        exact .none
      · simp only [headC] at hj
        rw [get_ofV] at hj
        obtain ⟨u, hu⟩ := @cvV_has d2 _ _ _ _ hV2 _ (lkV_mem hj)
        obtain ⟨v2, hv2, hc2⟩ := @cvV_get d2 _ _ _ _ hV2 _ _ hu
        rw [get_ofV, hj] at hv2; cases hv2
        obtain ⟨v1, hv1, hc1⟩ := @cvV_get d1 _ _ _ _ hV _ _ hu
        obtain ⟨q1, q2⟩ := @TR.val d1 _ _ _ (@FR.tr d1 _ _ _ _ hf) j v1 hv1
        exact ⟨q1, @VR.vc _ _ _ d2 same_to _ _ _ _ (@VR.cv _ _ _ d1 (same_of b2) _ _ _ _ q2 hc1) hc2⟩
    · cases h2
  · cases h1
end
end Go.Sx
namespace Go.Sx
def CtrPost (P : Program) (w : World) (F : Nat → Prop) (E : Env) (B : HL) (res : Value) : Ending → World → Prop := fun e w' =>
  ∃ v' E', e = .returned v' ∧ (∀ i x, E i = some x → (lkL B i).isSome = true → E' i = some x) ∧ HR0 P w F E' (ofL B) w' ∧ VR0 E' res v'
def GoodF (d : Den) (P : Program) (g : FuncId) (A : HL) (res : Value) (B : HL) (an : List Nat) (x : Cfg) : Prop :=
  ∀ fn, P.funcs[g]? = some fn → ∀ (w : World) (F : Nat → Prop) (E0 : Env) (Fe : Fence) (n : Nat), Wd Fe → (∀ i y, E0 i = some y → (lkL A i).isSome = true) →
    @GoodA d P w F Fe.plain n (bodyPostM Fe.plain n P fn (CtrPost P w F E0 B res)) an E0 x
noncomputable def codeOf (P : Program) (g : FuncId) : Code := match nthL P.funcs.toList g with
  | some fn => (match fn.body with
    | some c => c
    | none => .skip)
  | none => .skip
noncomputable def callB (P : Program) (g : FuncId) : Bool := match nthL P.funcs.toList g with
  | some fn => fn.body.isSome && !(fn.name == "runtime.NumGoroutine")
  | none => false
noncomputable def startC (P : Program) (g : FuncId) (args0 : List Value) (c0 : Nat) (A0 : HL) : Cfg :=
  ⟨[.code (codeOf P g)], .normal, Fr.init args0 (args0.length + ((match nthL P.funcs.toList g with
    | some fn => fn.ntmps
    | none => 0) - args0.length)), c0, ofL A0⟩
theorem callable_of {P : Program} {g : FuncId} (h : callB P g = true) : ∃ fn code, P.funcs[g]? = some fn ∧ (fn.name == "runtime.NumGoroutine") = false ∧ fn.body = some code ∧ nthL P.funcs.toList g = some fn ∧ codeOf P g = code := by
  unfold callB at h
  cases hf : nthL P.funcs.toList g with
  | none => rw [hf] at h; cases h
  | some fn =>
    rw [hf] at h
    simp only [Bool.and_eq_true, Bool.not_eq_true'] at h
    cases hb : fn.body with
    | none => rw [hb] at h; cases h.1
    | some code => exact ⟨fn, code, by rw [nthL_eq, Array.getElem?_toList] at hf; exact hf, h.2, hb, rfl, by unfold codeOf; rw [hf]; simp only [hb]⟩
theorem Ctr.of_good {d : Den} {P : Program} {g : FuncId} {c0 : Nat} {A0 : HL} {args0 : List Value} {args : List Value} {A : HL} {res : Value} {B : HL} (an : List Nat) (hc : callB P g = true) (h1 : (nodupB (A0.map (·.1)) && an.all (fun i => (lkL A0 i).isSome)) = true) (hin : @inOf d A0 args0 = some (args, A))
    (hg : GoodF d P g A res B an (startC P g args0 c0 A0)) : Ctr P g args A res B := by
  obtain ⟨fn, code, hfn, hname, hb, hnth, hcode⟩ := callable_of hc
  simp only [Bool.and_eq_true, List.all_eq_true] at h1
  obtain ⟨h1, h2⟩ := h1
  refine ⟨⟨fn, code, hfn, hname, hb⟩, fun w F E args' hh hl Fe n hW => ?_⟩
  unfold inOf at hin
  split at hin
  · rename_i as A' has hA
    cases hin
    have hH := @HR.vc P w F E w d A0 A hh h1 hA
    have hL := @LR.vc _ _ (idR A0) d same_to _ _ _ _ hl has
    have g0 := hg fn hfn w F E Fe n hW (fun i y hi => by
      have := @HR.dom den0 _ _ _ _ _ _ hh i y hi
      rw [get_ofL] at this
      cases hx : lkL A i with
      | none => exact absurd hx this
      | some o => rfl)
    have hf0 := @init_frame d _ _ _ hL fn.ntmps
    have key := g0 (envTo (idR A0) E) { tmps := args'.toArray ++ Array.replicate (fn.ntmps - args'.toArray.size) undef, defers := [] } w (fun i hi x hx => by
      have := h2 i hi
      cases ho : lkL A0 i with
      | none => rw [ho] at this; cases this
      | some o => unfold envTo; rw [lk_id_of_get ho]; exact hx) (by
        unfold startC
        simp only [hnth]
        exact hf0) hH
    have key2 : code.wpIn Fe.plain n P (bodyPostM Fe.plain n P fn (CtrPost P w F E B res)) { tmps := args'.toArray ++ Array.replicate (fn.ntmps - args'.toArray.size) undef, defers := [] } w := by
      have : (startC P g args0 c0 A0).k = [.code code] := by unfold startC; rw [hcode]
      rw [this] at key
      exact key
    exact callsIn_of_wp_marks (F := Fe.plain) hfn hb (hW.1 g) key2
  · cases hin
theorem GoodF.seg {d1 d2 : Den} {P : Program} (hm : P.follows .mixedOrders = true) (asm : Asm) (ents : List (FuncId × List Entry)) (hok : @AllOk d1 P asm.l) (hlds : @LdsOk d1 P asm.lds) (happs : @AppsOk d1 P asm.apps) (hent : @EntsOK d1 P ents) {N m : Nat} {g : FuncId} {A B : HL} {res : Value} {an : List Nat} {x : Cfg}
    {τ : Ren} {ros : List Nat} {k : List KI} {e : Exit} {fv : FV} {n c : Nat} {A2 : HL}
    (h1 : (ksteps (@rec asm P (tblE noTbl ents) N) m x).bind (@snap d1 τ ros (fv.map (·.1))) = @snap d2 (idR A2) [] (fv.map (·.1)) (headC k e fv n c A2)) (h2 : (@snap d2 (idR A2) [] (fv.map (·.1)) (headC k e fv n c A2)).isSome = true)
    (hb : (nodupB (A2.map (·.1)) && injB τ && an.all (fun i => match lkR τ i with
      | some a => Nat.beq a i
      | none => false)) = true) (hg : GoodF d2 P g A res B an (headC k e fv n c A2)) : GoodF d1 P g A res B an x := by
  intro fn hfn w F E0 Fe nn hW hE
  cases hs : @snap d2 (idR A2) [] (fv.map (·.1)) (headC k e fv n c A2) with
  | none => rw [hs] at h2; cases h2
  | some s =>
    rw [hs] at h1
    cases hk : ksteps (@rec asm P (tblE noTbl ents) N) m x with
    | none => rw [hk] at h1; cases h1
    | some y =>
      rw [hk] at h1
      have snd := @rec_sound P w F d1 asm (@asmOK_of d1 P asm.l asm.lds asm.apps hok hlds happs) hm _ (@tblE_snd P w F d1 _ (@noTbl_sound d1 P w F) _ (@EntsOK.all d1 P _ hent)) N
      exact @ksteps_soundA P w F Fe.plain nn _ an E0 d1 _ snd.1 hW _ _ _ hk (@GoodA.rebase P w F Fe.plain nn _ an E0 d1 d2 _ _ _ _ _ _ _ _ _ _ h1 hs hb (hg fn hfn w F E0 Fe nn hW hE))
noncomputable def endOf (d : Den) (P : Program) (g : FuncId) (τ : Ren) (ros : List Nat) (x : Cfg) : Option (Value × HL) := match x.k, nthL P.funcs.toList g with
  | [], some fn => (match x.e with
    | .ret => @outOf d τ ros (M.bind (takeL x.f.ds) (fun _ => resultsA P fn x.f) x.c x.h)
    | .normal => @outOf d τ ros (M.bind (takeL x.f.ds) (fun _ => resultsA P fn x.f) x.c x.h)
    | _ => none)
  | _, _ => none
theorem GoodF.fin {d : Den} {P : Program} (hm : P.follows .mixedOrders = true) (asm : Asm) (ents : List (FuncId × List Entry)) (hok : @AllOk d P asm.l) (hlds : @LdsOk d P asm.lds) (happs : @AppsOk d P asm.apps) (hent : @EntsOK d P ents) {N m : Nat} {g : FuncId} {A B : HL} {res : Value} {an : List Nat} {x : Cfg}
    {τ : Ren} {ros : List Nat} (h1 : (ksteps (@rec asm P (tblE noTbl ents) N) m x).bind (endOf d P g τ ros) = some (res, B))
    (hb : (injB τ && B.all (fun p => !(lkL A p.1).isSome || (an.any (Nat.beq p.1) && match lkR τ p.1 with
      | some a => Nat.beq a p.1
      | none => false))) = true) : GoodF d P g A res B an x := by
  intro fn hfn w F E0 Fe nn hW hE
  simp only [Bool.and_eq_true, List.all_eq_true] at hb
  obtain ⟨b1, b2⟩ := hb
  cases hk : ksteps (@rec asm P (tblE noTbl ents) N) m x with
  | none => rw [hk] at h1; cases h1
  | some y =>
    rw [hk] at h1
    have snd := @rec_sound P w F d asm (@asmOK_of d P asm.l asm.lds asm.apps hok hlds happs) hm _ (@tblE_snd P w F d _ (@noTbl_sound d P w F) _ hent.all) N
    refine @ksteps_soundA P w F Fe.plain nn _ an E0 d _ snd.1 hW _ _ _ hk ?_
    obtain ⟨yk, ye, yf, yc, yh⟩ := y
    have hnth : nthL P.funcs.toList g = some fn := by rw [nthL_eq, Array.getElem?_toList]; exact hfn
    have core : ∀ {R0 : R Value}, @outOf d τ ros R0 = some (res, B) → R0 = M.bind (takeL yf.ds) (fun _ => resultsA P fn yf) yc yh → ∀ (E : Env) (a : Act) (w1 : World), Anch an E0 E → @FR d E Fe.plain.round yf a → @HR d P w F E yh w1 →
        LeavesInM Fe.plain nn P fn a.tmps (CtrPost P w F E0 B res) a.defers .returning w1 := by
      intro R0 ho hR E a w1 ha hf hr
      cases R0 with
      | bad q => cases ho
      | ok v c' H' L =>
        simp only [outOf] at ho
        split at ho
        · rename_i r B' hv hB
          cases ho
          replace hR := bind_ok.1 hR.symm
          obtain ⟨u, c3, h3, _, _, htk, hres, _⟩ := hR
          refine @leaves_sound P w F d Fe.plain nn fn a.tmps _ E h3 c3 _ _ _ _ _ _ _ htk hr (@FR.defers d _ _ _ _ hf) fun w2 hr2 => ?_
          obtain ⟨_, q2, v', q3, q4⟩ := @results_sound P w F E h3 w2 Fe.plain.round d fn yf a hf hr2 v _ _ _ _ hres
          subst q2
          refine ⟨v', q3, v', envOf τ E, rfl, fun i x hi hbi => ?_, @HR.cv P w F E _ w2 d hr2 τ ros B b1 hB, @VR.cv _ _ _ d (same_of b1) _ _ _ _ q4 hv⟩
          cases ho : lkL B i with
          | none => rw [ho] at hbi; cases hbi
          | some o =>
            have := b2 _ (lkL_mem ho)
            simp only [hE i x hi, Bool.not_true, Bool.false_or, Bool.and_eq_true, List.any_eq_true] at this
            obtain ⟨⟨j, hj1, hj2⟩, h5⟩ := this
            have := beq_iff.1 hj2; subst this
            cases hl : lkR τ i with
            | none => rw [hl] at h5; cases h5
            | some a0 =>
              rw [hl] at h5
              have := beq_iff.1 h5; subst this
              unfold envOf
              rw [hl]
              exact ha _ hj1 x hi
        · cases ho
    intro E a w1 ha hf hr
    simp only [endOf, Option.bind_some, hnth] at h1
    simp only at hf hr ⊢
    cases yk with
    | cons i k => cases h1
    | nil =>
      cases ye with
      | ret => exact core h1 rfl E a w1 ha hf hr
      | normal => exact core h1 rfl E a w1 ha hf hr
      | exit id => cases h1
      | goto l => cases h1
      | panic ch => cases h1
      | outgrown => cases h1
end Go.Sx
namespace Go.Sx
def eqFs (P : Program) (eq : TypeId → Value → Value → Option Bool) (xs ys : Array Value) : List Field → Option Bool
  | [] => some true
  | f :: fs => bif f.name == "_" then eqFs P eq xs ys fs else match partA P f.type xs f.offset, partA P f.type ys f.offset with
    | some a, some b => (match eq f.type a b, eqFs P eq xs ys fs with
      | some r, some q => some (r && q)
      | _, _ => none)
    | _, _ => none
def eqIx (P : Program) (eq : Value → Value → Option Bool) (e : TypeId) (n : Nat) (xs ys : Array Value) : List Nat → Option Bool
  | [] => some true
  | i :: is => match partA P e xs (i * n), partA P e ys (i * n) with
    | some a, some b => (match eq a b, eqIx P eq e n xs ys is with
      | some r, some q => some (r && q)
      | _, _ => none)
    | _, _ => none
def eqT (P : Program) : Nat → TypeId → Value → Value → Option Bool
  | 0, _, _, _ => none
  | d + 1, t, x, y => match P.underlying t, x, y with
    | some .bool, .bool a, .bool b => some (a == b)
    | some (.int _), .int k a, .int k' b => bif decide (k = k') then some (a == b) else none
    | some (.struct fs), .agg xs, .agg ys => bif P.stoodInHeld t then none else eqFs P (eqT P d) xs ys fs.toList
    | some (.array n e), .agg xs, .agg ys => (match sizeB P e with
      | some s => eqIx P (eqT P d e) e s xs ys (List.range' 0 n)
      | none => none)
    | _, _, _ => none
section
variable {P : Program}
theorem run_part {t : TypeId} {cs : Array Value} {off : Nat} {v : Value} (h : partA P t cs off = some v) (w : World) : (part t cs off).run P w = .ok v w := by
  unfold partA at h
  split at h
  · rename_i n ha hn
    cases h
    simp only [part, Sem.run_bind, run_agg ha, Result.andThen_ok, if_true, run_size hn, Sem.run_pure]
  · rename_i n ha hn
    simp only [part, Sem.run_bind, run_agg ha, Result.andThen_ok, Bool.false_eq_true, if_false, h, Sem.run_pure]
  · cases h
theorem eqT_run : ∀ (d : Nat) {t : TypeId} {x y : Value} {b : Bool}, eqT P d t x y = some b → ∀ (k : Nat) (w : World), (Op.equalIn (d + k) t x y).run P w = .ok b w
  | 0, t, x, y, b, h, k, w => by cases h
  | d + 1, t, x, y, b, h, k, w => by
    rw [show d + 1 + k = (d + k) + 1 from by omega]
    unfold eqT at h
    split at h
    · rename_i hu; cases h
      unfold Op.equalIn
      simp only [Sem.run_bind, run_underlying hu, Result.andThen_ok, Sem.run_pure]
    · rename_i hu
      rename_i k1 a1 k2 b1
      cases hk : decide (k1 = k2) with
      | false => rw [hk] at h; cases h
      | true =>
        rw [hk] at h
        cases h
        unfold Op.equalIn
        simp only [Sem.run_bind, run_underlying hu, Result.andThen_ok, if_pos (of_decide_eq_true hk), Sem.run_pure]
    · rename_i fs xs ys hu
      cases hp : P.stoodInHeld t with
      | true => rw [hp] at h; cases h
      | false =>
        rw [hp] at h
        simp only [cond_false] at h
        have hf : P.fieldsOf t = fs := by unfold Program.fieldsOf; rw [hu]
        rw [run_equalIn_struct w (d + k) t xs ys (by rw [hf]; exact hu) hp, hf]
        generalize fs.toList = l at h
        clear hu hf
        induction l generalizing b with
        | nil => cases h; simp [Op.eqFields]
        | cons f l ih =>
          simp only [eqFs] at h
          simp only [Op.eqFields]
          cases hn : (f.name == "_") with
          | true =>
            rw [hn] at h
            have : f.name = "_" := by simpa using hn
            rw [if_neg (by simp [this])]
            exact ih _ h
          | false =>
            rw [hn] at h
            have hne : f.name ≠ "_" := by intro e; rw [e] at hn; simp at hn
            rw [if_pos hne]
            simp only [cond_false] at h
            split at h
            · rename_i a1 b1 ha hb
              split at h
              · rename_i r q hr hq
                cases h
                simp only [Sem.run_bind, run_part ha, run_part hb, Result.andThen_ok, eqT_run d hr k]
                cases r
                · simp
                · simp only [Bool.not_true, Bool.false_eq_true, if_false, Bool.true_and]; exact ih _ hq
              · cases h
            · cases h
    · rename_i n e xs ys hu
      split at h
      · rename_i s hs
        unfold Op.equalIn
        simp only [Sem.run_bind, run_underlying hu, Result.andThen_ok, run_size hs]
        rw [Std.Legacy.Range.forIn_eq_forIn_range']
        simp only [Std.Legacy.Range.size]
        have hsz : (n - 0 + 1 - 1) / 1 = n := by simp
        rw [hsz]
        generalize List.range' 0 n = l at h
        clear hu hsz
        induction l generalizing b with
        | nil => cases h; simp
        | cons i l ih =>
          simp only [eqIx] at h
          split at h
          · rename_i a1 b1 ha hb
            split at h
            · rename_i r q hr hq
              cases h
              simp only [List.forIn_cons, Sem.run_bind, run_part ha, run_part hb, Result.andThen_ok, eqT_run d hr k]
              cases r
              · simp
              · simp only [Bool.not_true, Bool.false_eq_true, if_false, Sem.run_pure, Result.andThen_ok, Bool.true_and]
                exact ih _ hq
            · cases h
          · cases h
      · cases h
    · cases h
def EQE [Den] (P : Program) (t : TypeId) (a b : Value) : Option Bool := match cv [] DEP a, cv [] DEP b with
  | some (.agg u), some (.agg v) => bif plainB (.agg u) && plainB (.agg v) && !(P.eqGuardType P.depth t) then eqT P 10 t (.agg u) (.agg v) else none
  | _, _ => none
theorem EQE_run {d : Den} {t : TypeId} {a b a' b' : Value} {E : Env} {c : Bool} (h : @EQE d P t a b = some c) (ha : @VR d E a a') (hb : @VR d E b b') : ∃ u v, a' = .agg u ∧ b' = .agg v ∧ P.eqGuardType P.depth t = false ∧ ∀ w, (Op.equal t a' b').run P w = .ok c w := by
  unfold EQE at h
  split at h
  · rename_i u v hu hv
    cases hp : (plainB (.agg u) && plainB (.agg v) && !(P.eqGuardType P.depth t)) with
    | false => rw [hp] at h; cases h
    | true =>
      rw [hp] at h
      simp only [cond_true] at h
      simp only [Bool.and_eq_true, Bool.not_eq_true'] at hp
      obtain ⟨⟨p1, p2⟩, p3⟩ := hp
      have ea := @VR.plain den0 E _ _ (ha.cv (E' := E) same_nil _ hu) p1
      have eb := @VR.plain den0 E _ _ (hb.cv (E' := E) same_nil _ hv) p2
      subst ea eb
      exact ⟨u, v, rfl, rfl, p3, fun w => eqT_run 10 h 9990 w⟩
  · cases h
theorem asEqA {d : Den} {t : TypeId} {a b : Value} {c r : Bool} (h : @EQE d P t a b = some c) (hc : c = r) : @AK.Ok d P (.bin .eql t a b) (.bool r) := by
  subst hc
  intro E a' b' ha hb x y w
  obtain ⟨u, v, rfl, rfl, hg, hr⟩ := EQE_run h ha hb
  refine ⟨_, .bool _, ?_⟩
  rw [Sem.run_bind, guard_run (by simp) (.inr hg) w, Result.andThen_ok]
  show (do let r ← Op.equal t (.agg u) (.agg v); pure (Value.bool r) : Sem Value).run P w = _
  rw [Sem.run_bind, hr]; rfl
theorem asNeA {d : Den} {t : TypeId} {a b : Value} {c r : Bool} (h : @EQE d P t a b = some c) (hc : (!c) = r) : @AK.Ok d P (.bin .neq t a b) (.bool r) := by
  subst hc
  intro E a' b' ha hb x y w
  obtain ⟨u, v, rfl, rfl, hg, hr⟩ := EQE_run h ha hb
  refine ⟨_, .bool _, ?_⟩
  rw [Sem.run_bind, guard_run (by simp) (.inr hg) w, Result.andThen_ok]
  show (do let r ← Op.equal t (.agg u) (.agg v); pure (Value.bool (!r)) : Sem Value).run P w = _
  rw [Sem.run_bind, hr]; rfl
end
end Go.Sx
namespace Go.Sx
section
variable {P : Program} {st xt e : TypeId} {size bytes : Nat} {z : Value}
theorem AppC.inf (ht : ElemT P st xt e size bytes z) {bl l : List Value} {n m off cp : Nat} {T : TypeId} (hbl : bl.length = n * size) (hpb : bl.all plainS = true) (hm : 1 ≤ m) (hl : off + m * size ≤ l.length) (hp : l.all plainS = true) (h1 : (n + m) * bytes ≤ 70368744177664) (h2 : n + m < HALF) :
    AppC P [st, xt] [.slice (some ⟨0, 0, none⟩) n INF, .slice (some ⟨1, off, none⟩) m cp] [(0, .row e (.lst bl) false), (1, .row T (.lst l) true)] (.slice (some ⟨2, 0, none⟩) (n + m) INF) [(0, .dead), (2, .row e (.lst (bl ++ (l.drop off).take (m * size))) false)] := by
  refine AppC.of_run (app_inf (H := ofL [(0, .row e (.lst bl) false), (1, .row T (.lst l) true)]) (c := 2) ht (i := 1) (b := 0) (by rw [get_ofL]; rfl) (by rw [get_ofL]; rfl) (by rw [get_ofL]; rfl) hm hl hp hbl h1 h2) (fun b o hb => ?_) rfl
  simp only [lkL] at hb
  cases h0 : Nat.beq 0 b with
  | true =>
    rw [h0] at hb
    cases hb
    have := beq_iff.1 h0; subst this
    exact ⟨.dead, by rw [Tr.get_set_ne _ _ (by omega), Tr.get_set_self], .inl rfl⟩
  | false =>
    rw [h0] at hb
    simp only [cond_false] at hb
    cases h : Nat.beq 2 b with
    | false => rw [h] at hb; cases hb
    | true =>
      rw [h] at hb
      cases hb
      have := beq_iff.1 h; subst this
      refine ⟨_, Tr.get_set_self _ _ _, .inr ⟨_, _, _, _, _, rfl, rfl, fun h => h, fun k v hk => by rw [mk_get]; exact hk, ?_⟩⟩
      rw [List.all_append, hpb, Bool.true_and]
      rw [List.all_eq_true] at hp ⊢
      exact fun x hx => hp x (List.mem_of_mem_drop (List.mem_of_mem_take hx))
theorem AppC.cap (ht : ElemT P st xt e size bytes z) {bl l : List Value} {n m off cp : Nat} {T Tb : TypeId} (hbl : bl.length = n * size) (hpb : bl.all plainS = true) (hm : 1 ≤ m) (hl : off + m * size ≤ l.length) (hp : l.all plainS = true) (h1 : (n + m) * bytes ≤ 70368744177664) (h2 : n + m < HALF) :
    AppC P [st, xt] [.slice (some ⟨0, 0, none⟩) n n, .slice (some ⟨1, off, none⟩) m cp] [(0, .row Tb (.lst bl) true), (1, .row T (.lst l) true)] (.slice (some ⟨2, 0, none⟩) (n + m) INF) [(2, .row e (.lst (bl ++ (l.drop off).take (m * size))) false)] := by
  refine AppC.of_run (app_cap (H := ofL [(0, .row Tb (.lst bl) true), (1, .row T (.lst l) true)]) (c := 2) ht (i := 1) (b := 0) (by rw [get_ofL]; rfl) (by rw [get_ofL]; rfl) (by rw [get_ofL]; rfl) hm hl hp hpb hbl h1 h2) (fun b o hb => ?_) rfl
  simp only [lkL] at hb
  cases h : Nat.beq 2 b with
  | false => rw [h] at hb; cases hb
  | true =>
    rw [h] at hb
    cases hb
    have := beq_iff.1 h; subst this
    refine ⟨_, Tr.get_set_self _ _ _, .inr ⟨_, _, _, _, _, rfl, rfl, fun h => h, fun k v hk => by rw [mk_get]; exact hk, ?_⟩⟩
    rw [List.all_append, hpb, Bool.true_and]
    rw [List.all_eq_true] at hp ⊢
    exact fun x hx => hp x (List.mem_of_mem_drop (List.mem_of_mem_take hx))
theorem AppOk.mk {d : Den} {s1 s2 : TypeId} {e : Entry} {args : List Value} {A : HL} {res : Value} {B : HL} (h : AppC P [s1, s2] args A res B) (h1 : entB e = true) (h2 : @entOf d e = some (args, A, res, B)) (h3 : Nat.blt s2 1000000 = true) : @AppOk d P [s1, s2] e :=
  ⟨fun _ => @frameB P d [s1, s2] e args A res B h1 h2 h, fun t ht => by cases ht; exact absurd (blt_iff.1 h3) (by omega), fun t ht => by cases ht; exact absurd (blt_iff.1 h3) (by omega), fun t ht => by cases ht; exact absurd (blt_iff.1 h3) (by omega), (fun l hl => by have := congrArg List.getLast? hl; simp at this; subst this; exact absurd (blt_iff.1 h3) (by omega)), fun t ht => by cases ht; exact absurd (blt_iff.1 h3) (by omega)⟩
theorem StOk.mk {d : Den} {t : TypeId} {e : Entry} {a v : Value} {A B : HL} (h : StC P t a v A B) (h1 : entB e = true) (h2 : @entOf d e = some ([a, v], A, .bool false, B)) : @AppOk d P [t, 1000001] e :=
  ⟨fun hh => by simp at hh, (fun t' ht => by cases ht), (fun t' ht => by cases ht; exact @frameS P d t e a v A B h1 h2 h), (fun t' ht => by cases ht), (fun l hl => by have := congrArg List.getLast? hl; simp at this), (fun t' ht => by cases ht)⟩
theorem MkOk.mk {d : Den} {t : TypeId} {e : Entry} {a b res : Value} {A B : HL} (h : MkC P t a b A res B) (h1 : entB e = true) (h2 : @entOf d e = some ([a, b], A, res, B)) : @AppOk d P [t, 1000002] e :=
  ⟨fun hh => by simp at hh, (fun t' ht => by cases ht), (fun t' ht => by cases ht), (fun t' ht => by cases ht; exact @frameK P d t e a b res A B h1 h2 h), (fun l hl => by have := congrArg List.getLast? hl; simp at this), (fun t' ht => by cases ht)⟩
theorem LdC.cell {t T : TypeId} {l : List Value} {k : Nat} {v : Value} {ro : Bool} (rest : HL) (ha : aggB P t = some false) (hk : l[k]? = some v) : LdC P t (.pointer (some ⟨0, k, none⟩)) ((0, .row T (.lst l) ro) :: rest) v := by
  intro w F E a' hr hv
  have hrun : Run (loadA P t (.pointer (some ⟨0, k, none⟩))) 0 (ofL ((0, .row T (.lst l) ro) :: rest)) v 0 (ofL ((0, .row T (.lst l) ro) :: rest)) := by
    unfold loadA
    refine Run.bind (Run.opt ha) ?_
    simp only [cond_false]
    refine ⟨.one (.cell 0 k false), ?_⟩
    unfold rd
    rw [get_ofL]
    simp only [lkL, Nat.beq_refl, cond_true, get_lst, hk]
  obtain ⟨L, hrun⟩ := hrun
  obtain ⟨_, _, v', k1, k2⟩ := @load_sound P w F E _ w den0 t _ a' v _ _ _ _ hrun hr hv
  exact ⟨v', k1, k2⟩
theorem StC.cell {t T : TypeId} {l : List Value} {k : Nat} {v : Value} (rest : HL) (ha : sizeB P t = some 1) (hk : k < l.length) (hv1 : v.cells = #[v]) (ho : oneB v = true) : StC P t (.pointer (some ⟨0, k, none⟩)) v ((0, .row T (.lst l) false) :: rest) ((0, .row T (.lst (l.set k v)) false) :: rest) := by
  intro w F E a' v' hr hpa hv
  have hrun : Run (storeA P t (.pointer (some ⟨0, k, none⟩)) v) 0 (ofL ((0, .row T (.lst l) false) :: rest)) () 0 ((ofL ((0, .row T (.lst l) false) :: rest)).set 0 (.row T (.lst (l.set k v)) false)) := by
    unfold storeA
    refine Run.bind (Run.opt ha) (Run.bind (Run.guard (by rw [hv1]; rfl)) ?_)
    rw [wrB_eq, hv1]
    refine Run.bind (a := ()) ?_ Run.pure
    refine ⟨.app (.one (.info 0)) (.one (.cell 0 k true)), ?_⟩
    unfold wr
    rw [get_ofL]
    simp only [lkL, Nat.beq_refl, cond_true, get_lst, List.getElem?_eq_getElem hk, ho, Cells.set, setL_std]
  obtain ⟨L, hrun⟩ := hrun
  obtain ⟨_, w', k1, k2⟩ := @store_sound P w F E _ w den0 t _ a' v v' _ _ _ _ hrun hr hpa hv
  refine ⟨w', k1, ?_⟩
  have e1 : (ofL ((0, .row T (.lst l) false) :: rest)).set 0 (.row T (.lst (l.set k v)) false) = ofL ((0, .row T (.lst (l.set k v)) false) :: rest) := by
    simp only [ofL, Tr.set_set]
  rw [e1] at k2
  exact k2
end
theorem Ctr.cast {P : Program} {g : FuncId} {args args' : List Value} {A A' : HL} {res res' : Value} {B B' : HL} (h : Ctr P g args A res B) (h1 : args = args') (h2 : A = A') (h3 : res = res') (h4 : B = B') : Ctr P g args' A' res' B' := by
  subst h1 h2 h3 h4; exact h
end Go.Sx
namespace Go.Sx
theorem Ctr.addDead {P : Program} {g : FuncId} {args : List Value} {A : HL} {res : Value} {B : HL} (h : Ctr P g args A res B) (b : Nat) (hb : lkL B b = none) : Ctr P g args A res (B ++ [(b, .dead)]) := by
  refine ⟨h.1, fun w F E args' hr hl Fe n hW => (h.2 w F E args' hr hl Fe n hW).mono fun e w' ⟨v', E', k1, k2, k3, k4⟩ => ?_⟩
  have hdom := @HR.dom den0 _ _ _ _ _ _ k3
  have hobj := @HR.obj den0 _ _ _ _ _ _ k3
  have hinj := @HR.inj den0 _ _ _ _ _ _ k3
  have hown := @HR.own den0 _ _ _ _ _ _ k3
  have hEb : E' b = none := by
    cases hx : E' b with
    | none => rfl
    | some x => have := hdom b x hx; rw [get_ofL, hb] at this; exact absurd rfl this
  obtain ⟨E2, hE2⟩ : ∃ E2 : Env, E2 = fun i => if i = b then E b else E' i := ⟨_, rfl⟩
  have hle : E'.le E2 := fun i x hx => by
    rw [hE2]
    have : i ≠ b := fun e => by rw [e, hEb] at hx; cases hx
    simp only [this, if_false]; exact hx
  have hne : ∀ {i : Nat} {o : AObj}, lkL B i = some o → i ≠ b := fun h e => by rw [e, hb] at h; cases h
  have hget : ∀ i, (ofL (B ++ [(b, .dead)])).get i = (match lkL B i with
      | some o => some o
      | none => lkL [(b, .dead)] i) := fun i => by rw [get_ofL, lkL_app]; cases lkL B i <;> rfl
  have old : ∀ {i : Nat} {o : AObj}, (ofL (B ++ [(b, .dead)])).get i = some o → live o = true → (ofL B).get i = some o ∧ E2 i = E' i := by
    intro i o ho hlo
    rw [hget] at ho
    cases hx : lkL B i with
    | some p =>
      rw [hx] at ho
      cases ho
      refine ⟨by rw [get_ofL]; exact hx, ?_⟩
      rw [hE2]; simp only [hne hx, if_false]
    | none =>
      rw [hx] at ho
      simp only [lkL] at ho
      cases hb2 : Nat.beq b i with
      | false => rw [hb2] at ho; cases ho
      | true => rw [hb2] at ho; cases ho; cases hlo
  refine ⟨v', E2, k1, fun i x hi hbi => ?_, @HR.mk den0 _ _ _ _ _ _ (@HR.keeps den0 _ _ _ _ _ _ k3) (fun i x hx => ?_) (fun i o ho => ?_) (fun i j o p x y hne2 ho hp hlo hlp hw hx hy => ?_) (fun i o x ho hw hx => ?_), @VR.mono den0 _ _ hle _ _ k4⟩
  · rw [hE2]
    by_cases hib : i = b
    · simp only [hib, if_true]; rw [← hib]; exact hi
    · simp only [hib, if_false]
      refine k2 i x hi ?_
      rw [lkL_app] at hbi
      cases hx : lkL B i with
      | some o => rfl
      | none =>
        rw [hx] at hbi
        simp only [lkL] at hbi
        cases hb2 : Nat.beq b i with
        | true => exact absurd (beq_iff.1 hb2).symm hib
        | false => rw [hb2] at hbi; cases hbi
  · rw [hget]
    by_cases hib : i = b
    · subst hib; rw [hb]; simp [lkL]
    · rw [hE2] at hx
      simp only [hib, if_false] at hx
      have := hdom i x hx
      rw [get_ofL] at this
      cases h5 : lkL B i with
      | none => exact absurd h5 this
      | some o => simp
  · cases hlo : live o with
    | false => cases o <;> first | trivial | cases hlo
    | true =>
      obtain ⟨h1, h2⟩ := old ho hlo
      exact @ObjR.mono P w' den0 _ _ hle i o (fun hn => h2.trans hn) (hobj i o h1)
  · obtain ⟨h1, h2⟩ := old ho hlo
    obtain ⟨h3, h4⟩ := old hp hlp
    exact hinj i j o p x y hne2 h1 h3 hlo hlp hw (h2 ▸ hx) (h4 ▸ hy)
  · have hlo : live o = true := by cases o <;> first | rfl | cases hw
    obtain ⟨h1, h2⟩ := old ho hlo
    exact hown i o x h1 hw (h2 ▸ hx)
theorem HR.congr [Den] {P : Program} {w0 : World} {F : Nat → Prop} {E : Env} {H H' : Heap} {w : World} (hr : HR P w0 F E H w) (h : ∀ i, H'.get i = H.get i) : HR P w0 F E H' w :=
  ⟨hr.keeps, fun i e he => by rw [h]; exact hr.dom i e he, fun i o ho => hr.obj i o (by rw [← h]; exact ho), fun i j o p e e' hne ho hp => hr.inj i j o p e e' hne (by rw [← h]; exact ho) (by rw [← h]; exact hp), fun i o e ho => hr.own i o e (by rw [← h]; exact ho)⟩
theorem Ctr.reB {P : Program} {g : FuncId} {args : List Value} {A : HL} {res : Value} {B B' : HL} (h : Ctr P g args A res B) (hB : ∀ i, lkL B' i = lkL B i) : Ctr P g args A res B' := by
  refine ⟨h.1, fun w F E args' hr hl Fe n hW => (h.2 w F E args' hr hl Fe n hW).mono fun e w' ⟨v', E', k1, k2, k3, k4⟩ => ⟨v', E', k1, fun i x hi hb => k2 i x hi (by rw [← hB]; exact hb), ?_, k4⟩⟩
  exact @HR.congr den0 _ _ _ _ _ _ _ k3 (fun i => by rw [get_ofL, get_ofL, hB])
end Go.Sx
namespace Go.Sx
structure GoodS (d : Den) (P : Program) (g : FuncId) (A : HL) (res : Value) (B : HL) (an : List Nat) (x : Cfg) : Prop where
  get : GoodF d P g A res B an x
theorem goodS_seg {d1 d2 : Den} {P : Program} (hm : P.follows .mixedOrders = true) (asm : Asm) (ents : List (FuncId × List Entry)) (hok : @AllOk d1 P asm.l) (hlds : @LdsOk d1 P asm.lds) (happs : @AppsOk d1 P asm.apps) (hent : @EntsOK d1 P ents) {N m : Nat} {g : FuncId} {A B : HL} {res : Value} {an : List Nat} {x : Cfg}
    {τ : Ren} {ros : List Nat} {k : List KI} {e : Exit} {fv : FV} {n c : Nat} {A2 : HL}
    (h1 : (ksteps (@rec asm P (tblE noTbl ents) N) m x).bind (@snap d1 τ ros (fv.map (·.1))) = @snap d2 (idR A2) [] (fv.map (·.1)) (headC k e fv n c A2)) (h2 : (@snap d2 (idR A2) [] (fv.map (·.1)) (headC k e fv n c A2)).isSome = true)
    (hb : (nodupB (A2.map (·.1)) && injB τ && an.all (fun i => match lkR τ i with
      | some a => Nat.beq a i
      | none => false)) = true) (hg : GoodS d2 P g A res B an (headC k e fv n c A2)) : GoodS d1 P g A res B an x := ⟨GoodF.seg hm asm ents hok hlds happs hent h1 h2 hb hg.get⟩
theorem goodS_fin {d : Den} {P : Program} (hm : P.follows .mixedOrders = true) (asm : Asm) (ents : List (FuncId × List Entry)) (hok : @AllOk d P asm.l) (hlds : @LdsOk d P asm.lds) (happs : @AppsOk d P asm.apps) (hent : @EntsOK d P ents) {N m : Nat} {g : FuncId} {A B : HL} {res : Value} {an : List Nat} {x : Cfg}
    {τ : Ren} {ros : List Nat} (h1 : (ksteps (@rec asm P (tblE noTbl ents) N) m x).bind (endOf d P g τ ros) = some (res, B))
    (hb : (injB τ && B.all (fun p => !(lkL A p.1).isSome || (an.any (Nat.beq p.1) && match lkR τ p.1 with
      | some a => Nat.beq a p.1
      | none => false))) = true) : GoodS d P g A res B an x := ⟨GoodF.fin hm asm ents hok hlds happs hent h1 hb⟩
theorem Ctr.of_goodS {d : Den} {P : Program} {g : FuncId} {c0 : Nat} {A0 : HL} {args0 : List Value} {args : List Value} {A : HL} {res : Value} {B : HL} (an : List Nat) (hc : callB P g = true) (h1 : (nodupB (A0.map (·.1)) && an.all (fun i => (lkL A0 i).isSome)) = true) (hin : @inOf d A0 args0 = some (args, A))
    (hg : GoodS d P g A res B an (startC P g args0 c0 A0)) : Ctr P g args A res B := Ctr.of_good an hc h1 hin hg.get
end Go.Sx
namespace Go.Sx
def ctl : Obj → Bool
  | .loop _ => true
  | .deferred _ => true
  | _ => false
structure Grow (B : Nat) (A A' : World) : Prop where
  os : A'.os = A.os
  tape : A'.tape = A.tape
  output : A'.output = A.output
  size : A.heap.size ≤ A'.heap.size
  block : ∀ b, b < A.heap.size → A'.heap[b]? = A.heap[b]? ∨ (B ≤ b ∧ ∃ o, A.heap[b]? = some o ∧ ctl o = true)
theorem Grow.of_keeps {B : Nat} {A A' : World} (h : Keeps A (fun _ => False) A') : Grow B A A' := ⟨h.os, h.tape, h.output, h.size, fun b hb => .inl (h.block b hb fun f => f)⟩
theorem Grow.put {B l : Nat} {o : Obj} (o' : Obj) {A : World} (hl : B ≤ l) (ho : A.heap[l]? = some o) (hc : ctl o = true) : Grow B A (A.putObj l o') := by
  refine ⟨rfl, rfl, rfl, by rw [World.putObj_size]; exact Nat.le_refl _, fun b hb => ?_⟩
  by_cases h : b = l
  · subst h; exact .inr ⟨hl, o, ho, hc⟩
  · exact .inl (World.putObj_heap_other h)
theorem Grow.alloc {B : Nat} (A : World) (o : Obj) : Grow B A (A.alloc o) := by
  refine ⟨rfl, rfl, rfl, by rw [World.size_alloc]; omega, fun b hb => .inl ?_⟩
  show (A.heap.push o)[b]? = A.heap[b]?
  rw [Array.getElem?_push, if_neg (by omega)]
theorem Grow.same {B : Nat} {A A' : World} (h : Grow B A A') {b : Nat} {o : Obj} (ho : A.heap[b]? = some o) (hc : b < B ∨ ctl o = false) : A'.heap[b]? = some o := by
  have hb : b < A.heap.size := (Array.getElem?_eq_some_iff.1 ho).1
  rcases h.block b hb with h1 | ⟨h1, o', h2, h3⟩
  · rw [h1]; exact ho
  · rw [ho] at h2; cases h2
    rcases hc with hc | hc
    · omega
    · rw [hc] at h3; cases h3
theorem Grow.mono {B B' : Nat} {A A' : World} (h : Grow B' A A') (hb : B ≤ B') : Grow B A A' :=
  ⟨h.os, h.tape, h.output, h.size, fun b hl => (h.block b hl).imp id fun ⟨h1, h2⟩ => ⟨Nat.le_trans hb h1, h2⟩⟩
def noCtl : AObj → Bool
  | .loop _ _ _ _ _ _ _ => false
  | .defd => false
  | _ => true
theorem CAt.ctl {w : World} {b : Nat} {T : TypeId} {cells : Array Value} {ro : Bool} (h : CAt w b T cells ro) : ∃ o, w.heap[b]? = some o ∧ Sx.ctl o = false := by
  obtain ⟨T', fz, h⟩ := h.frz
  exact ⟨_, h, rfl⟩
section
variable {P : Program} {w0 : World} {F : Nat → Prop} {E : Env} {H : Heap} {w w' : World}
theorem HR.grow [Den] {B : Nat} (hr : HR P w0 F E H w) (hn : ∀ i o, H.get i = some o → noCtl o = true) (hB : w0.heap.size ≤ B) (hg : Grow B w w') : HR P w0 F E H w' := by
  have hk := hr.keeps
  have same : ∀ {b : Nat} {T : TypeId} {cells : Array Value} {ro : Bool}, CAt w b T cells ro → CAt w' b T cells ro := fun h => by
    obtain ⟨o, h1, h2⟩ := h.ctl
    exact h.congr ((hg.same h1 (.inr h2)).trans h1.symm)
  refine ⟨⟨hg.os.trans hk.os, hg.tape.trans hk.tape, hg.output.trans hk.output, Nat.le_trans hk.size hg.size, fun k h1 h2 => ?_⟩, hr.dom, fun i o hi => ?_, hr.inj, hr.own⟩
  · have h3 := hk.block k h1 h2
    have hlt : k < w.heap.size := Nat.lt_of_lt_of_le h1 hk.size
    rcases hg.block k hlt with h4 | ⟨h4, _⟩
    · rw [h4]; exact h3
    · omega
  · have h := hr.obj i o hi
    have hno := hn i o hi
    cases o with
    | row T cs ro => obtain ⟨e, cells, h1, h2, h3⟩ := h; exact ⟨e, cells, h1, same h2, h3⟩
    | map es =>
      obtain ⟨e, ents, clock, h1, h2, h3⟩ := h
      exact ⟨e, ents, clock, h1, hg.same h2 (.inr rfl), h3⟩
    | orow T j ro => obtain ⟨e, cells, h1, h2, h3⟩ := h; exact ⟨e, cells, h1, same h2, h3⟩
    | mrow T j ro =>
      rcases h with h | ⟨e, cells, h1, h2, h3⟩
      · exact .inl h
      · exact .inr ⟨e, cells, h1, same h2, h3⟩
    | dead => trivial
    | defd => cases hno
    | loop _ _ _ _ _ _ _ => cases hno
theorem Keeps.refl' (w : World) (F : Nat → Prop) : Keeps w F w := ⟨rfl, rfl, rfl, Nat.le_refl _, fun _ _ _ => rfl⟩
theorem Keeps.trans {w1 w2 : World} {F1 : Nat → Prop} (h1 : Keeps w0 F w1) (h2 : Keeps w1 F1 w2) (hF : ∀ b, F1 b → w0.heap.size ≤ b ∨ F b) : Keeps w0 F w2 := by
  refine ⟨h2.os.trans h1.os, h2.tape.trans h1.tape, h2.output.trans h1.output, Nat.le_trans h1.size h2.size, fun k hk hn => ?_⟩
  rw [h2.block k (Nat.lt_of_lt_of_le hk h1.size) fun h => (hF k h).elim (fun h => by omega) hn]
  exact h1.block k hk hn
def wb (E : Env) (H : Heap) (b : Nat) : Prop := ∃ i o e, H.get i = some o ∧ writable o = true ∧ E i = some e ∧ e.blk = b
theorem HR.base [Den] (hr : HR P w0 F E H w) : HR P w (wb E H) E H w :=
  ⟨Keeps.refl' _ _, hr.dom, hr.obj, hr.inj, fun i o e h1 h2 h3 => .inr ⟨i, o, e, h1, h2, h3, rfl⟩⟩
theorem HR.wb_old [Den] (hr : HR P w0 F E H w) {b : Nat} (h : wb E H b) : w0.heap.size ≤ b ∨ F b := by
  obtain ⟨i, o, e, h1, h2, h3, rfl⟩ := h
  exact hr.own i o e h1 h2 h3
theorem HR.wb_ctl [Den] (hr : HR P w0 F E H w) (hn : ∀ i o, H.get i = some o → noCtl o = true) {b : Nat} (h : wb E H b) {o : Obj} (ho : w.heap[b]? = some o) : ctl o = false := by
  obtain ⟨i, q, e, h1, h2, h3, rfl⟩ := h
  have h4 := hr.obj i q h1
  have hno := hn i q h1
  have cc : ∀ {T : TypeId} {cells : Array Value} {ro : Bool}, CAt w e.blk T cells ro → ctl o = false := fun h => by
    obtain ⟨o', g1, g2⟩ := h.ctl
    rw [ho] at g1; cases g1
    exact g2
  cases q with
  | row T cs ro => obtain ⟨e', cells, g1, g2, _⟩ := h4; rw [h3] at g1; cases g1; exact cc g2
  | map es => obtain ⟨e', ents, clock, g1, g2, _⟩ := h4; rw [h3] at g1; cases g1; rw [ho] at g2; cases g2; rfl
  | orow T j ro => obtain ⟨e', cells, g1, g2, _⟩ := h4; rw [h3] at g1; cases g1; exact cc g2
  | mrow T j ro =>
    rcases h4 with ⟨g1, _⟩ | ⟨e', cells, g1, g2, _⟩
    · rw [h3] at g1; cases g1
    · rw [h3] at g1; cases g1; exact cc g2
  | dead => cases h2
  | defd => cases hno
  | loop _ _ _ _ _ _ _ => cases hno
theorem HR.addDead [Den] (hr : HR P w0 F E H w) {y : Nat} (e : EI) (hy : H.get y = none) : E.le (E.upd y e) ∧ HR P w0 F (E.upd y e) (H.set y .dead) w := by
  have hE : E y = none := by
    cases h : E y with
    | none => rfl
    | some x => exact absurd hy (hr.dom y x h)
  have hle := Env.le_upd (e := e) hE
  have hne : ∀ {i : Nat} {o : AObj}, (H.set y .dead).get i = some o → live o = true ∨ writable o = true → i ≠ y ∧ H.get i = some o := fun {i o} h hl => by
    simp only [Tr.get_set] at h
    by_cases hi : i = y
    · rw [if_pos hi] at h; cases h; rcases hl with hl | hl <;> cases hl
    · rw [if_neg hi] at h; exact ⟨hi, h⟩
  have hEn : ∀ {i : Nat}, i ≠ y → (E.upd y e) i = E i := fun {i} h => by unfold Env.upd; rw [if_neg h]
  refine ⟨hle, hr.keeps, fun i x h => ?_, fun i o hi => ?_, fun i j o p x z hij hi hj h1 h2 hw hx hz => ?_, fun i o x hi hw hx => ?_⟩
  · simp only [Tr.get_set]
    by_cases hi : i = y
    · rw [if_pos hi]; exact fun h => by cases h
    · rw [if_neg hi]; rw [hEn hi] at h; exact hr.dom i x h
  · simp only [Tr.get_set] at hi
    by_cases hiy : i = y
    · rw [if_pos hiy] at hi; cases hi; trivial
    · rw [if_neg hiy] at hi
      exact ObjR.mono hle (fun h => (hEn hiy).trans h) (hr.obj i o hi)
  · obtain ⟨a1, a2⟩ := hne hi (.inl h1)
    obtain ⟨b1, b2⟩ := hne hj (.inl h2)
    rw [hEn a1] at hx
    rw [hEn b1] at hz
    exact hr.inj i j o p x z hij a2 b2 h1 h2 hw hx hz
  · obtain ⟨a1, a2⟩ := hne hi (.inr hw)
    rw [hEn a1] at hx
    exact hr.own i o x a2 hw hx
end
end Go.Sx
namespace Go.Sx
@[reducible] def Den.wj (d : Den) (l : List Deferred) : Den := { d with jk := l }
section
variable {P : Program} {w0 : World} {F : Nat → Prop} {E : Env} {w : World}
theorem HR.swap {d1 d2 : Den} {H : Heap} {τ : Ren} {ros : List Nat} {A B : HL} (hr : @HR d1 P w0 F E H w) (hi : injB τ = true) (h1 : @cvH d1 τ ros H τ = some B) (h2 : @cvH d2 (idR A) [] (ofL A) (idR A) = some B) (hn : nodupB (A.map (·.1)) = true) :
    @HR d2 P w0 F (envTo (idR A) (envOf τ E)) (ofL A) w :=
  @HR.vc P w0 F (envOf τ E) w d2 A B (@HR.cv P w0 F E H w d1 hr τ ros B hi h1) hn h2
theorem TR.swap {d1 d2 : Den} {f : Fr} {tmps : Array Value} {τ : Ren} {A : HL} {fv : FV} {V : FV} {ro : Option Nat} {ds : List Nat} (h : @TR d1 E f tmps) (hi : injB τ = true) (h1 : @cvV d1 τ f.t (fv.map (·.1)) = some V) (h2 : @cvV d2 (idR A) (ofV fv) (fv.map (·.1)) = some V) :
    @TR d2 (envTo (idR A) (envOf τ E)) ⟨ofV fv, f.n, ro, ds⟩ tmps := by
  have hsz : tmps.size = f.n := @TR.size d1 _ _ _ h
  refine @TR.mk d2 _ _ _ hsz fun j v hj => ?_
  simp only at hj
  rw [get_ofV] at hj
  obtain ⟨u, hu⟩ := @cvV_has d2 _ _ _ _ h2 _ (lkV_mem hj)
  obtain ⟨v2, hv2, hc2⟩ := @cvV_get d2 _ _ _ _ h2 _ _ hu
  rw [get_ofV, hj] at hv2; cases hv2
  obtain ⟨v1, hv1, hc1⟩ := @cvV_get d1 _ _ _ _ h1 _ _ hu
  obtain ⟨q1, q2⟩ := @TR.val d1 _ _ _ h j v1 hv1
  exact ⟨q1, @VR.vc _ _ _ d2 same_to _ _ _ _ (@VR.cv _ _ _ d1 (same_of hi) _ _ _ _ q2 hc1) hc2⟩
theorem env_id {A : HL} {E : Env} : (envTo (idR A) (envOf (idR A) E)).le E := fun i x h => by
  unfold envTo envOf at h
  cases h1 : lk (idR A) i with
  | none => rw [h1] at h; cases h
  | some b =>
    rw [h1] at h
    simp only [Option.bind_some] at h
    cases h2 : lkR (idR A) b with
    | none => rw [h2] at h; cases h
    | some a =>
      rw [h2] at h
      have e1 := lkR_id h2
      have e2 : b = i := by
        have := lk_mem h1
        simp only [idR, List.mem_map] at this
        obtain ⟨p, _, hp⟩ := this
        simp only [Prod.mk.injEq] at hp
        exact hp.2.symm.trans hp.1
      subst e1 e2
      exact h
theorem DsR.big [Den] {l : List Deferred} (h : DsR E [bigD] l) (hE : E bigD = none) : l = Den.jk := by
  generalize hx : [bigD] = is at h
  cases h with
  | nil => cases hx
  | rest => rfl
  | cons he t => cases hx; rw [hE] at he; cases he
end
def mkD (b : Nat) : Deferred := { target := .collected b, args := #[] }
structure Base (w00 : World) (F00 : Nat → Prop) (Ds : List Nat) (w0 : World) (F0 : Nat → Prop) : Prop where
  keeps : Keeps w00 F00 w0
  own : ∀ b, F0 b → w00.heap.size ≤ b ∨ F00 b
  nd : Ds.Nodup
  jk : ∀ D ∈ Ds, w00.heap.size ≤ D ∧ D < w0.heap.size ∧ ¬ F0 D ∧ w0.heap[D]? = some (.deferred (some []))
structure GoodJ (d : Den) (P : Program) (g : FuncId) (res : Value) (x : Cfg) : Prop where
  get : ∀ fn, P.funcs[g]? = some fn → ∀ (w00 : World) (F00 : Nat → Prop) (E00 : Env) (Fe : Fence) (n : Nat), Wd Fe → ∀ (Ds : List Nat) (w0 : World) (F0 : Nat → Prop), Base w00 F00 Ds w0 F0 →
    @GoodA (d.wj (Ds.map mkD)) P w0 F0 Fe.plain n (bodyPostM Fe.plain n P fn (CtrPost P w00 F00 E00 [] res)) [] E00 x
noncomputable def headJ (k : List KI) (e : Exit) (fv : FV) (n c : Nat) (A : HL) : Cfg := ⟨k, e, ⟨ofV fv, n, none, [bigD]⟩, c, ofL A⟩
noncomputable def snapJ [Den] (τ : Ren) (ros slots : List Nat) (x : Cfg) : Option Snap := match x.f with
  | ⟨t, n, none, [i]⟩ => bif Nat.beq i bigD && (match x.h.get bigD with
    | none => true
    | some _ => false) then (match cvH τ ros x.h τ, cvV τ t slots with
    | some B, some V => some ⟨x.k, x.e, n, B, V⟩
    | _, _ => none) else none
  | _ => none
theorem snapJ_wj (d : Den) (l : List Deferred) (τ : Ren) (ros slots : List Nat) (x : Cfg) : @snapJ (d.wj l) τ ros slots x = @snapJ d τ ros slots x := by kernel_rfl
theorem cvH_wj (d : Den) (l : List Deferred) (τ : Ren) (ros : List Nat) (H : Heap) (r : Ren) : @cvH (d.wj l) τ ros H r = @cvH d τ ros H r := by kernel_rfl
theorem cvV_wj (d : Den) (l : List Deferred) (τ : Ren) (t : Tr Value) (s : List Nat) : @cvV (d.wj l) τ t s = @cvV d τ t s := by kernel_rfl
theorem cv_wj (d : Den) (l : List Deferred) (τ : Ren) (n : Nat) (v : Value) : @cv (d.wj l) τ n v = @cv d τ n v := by kernel_rfl
section
variable {P : Program} {w0 : World} {F : Nat → Prop} {Fe : Fence} {n : Nat} {Q : Exit → Act → World → Prop} {E0 : Env}
theorem GoodA.rebaseJ {d1 d2 : Den} (hjk : d1.jk = d2.jk) {x : Cfg} {τ : Ren} {ros : List Nat} {k : List KI} {e : Exit} {fv : FV} {m c : Nat} {A : HL} {s : Snap} (h1 : @snapJ d1 τ ros (fv.map (·.1)) x = some s) (h2 : @snapJ d2 (idR A) [] (fv.map (·.1)) (headJ k e fv m c A) = some s)
    (hb : (nodupB (A.map (·.1)) && injB τ) = true) (hg : @GoodA d2 P w0 F Fe n Q [] E0 (headJ k e fv m c A)) : @GoodA d1 P w0 F Fe n Q [] E0 x := by
  simp only [Bool.and_eq_true] at hb
  obtain ⟨b1, b2⟩ := hb
  obtain ⟨xk, xe, ⟨xt, xn, xro, xds⟩, xc, xh⟩ := x
  intro E a w ha hf hr
  unfold snapJ at h1 h2
  simp only [headJ] at h1 h2
  split at h1
  · rename_i t n' i heq
    simp only [Fr.mk.injEq] at heq
    obtain ⟨r1, r2, r3, r4⟩ := heq
    subst r1 r2 r3 r4
    cases hc : (Nat.beq i bigD && (match xh.get bigD with
      | none => true
      | some _ => false)) with
    | false => rw [hc] at h1; cases h1
    | true =>
    rw [hc] at h1
    simp only [Bool.and_eq_true] at hc
    obtain ⟨hi, hbig⟩ := hc
    have hi := beq_iff.1 hi
    subst hi
    simp only [cond_true] at h1
    split at h1
    · rename_i B V hB hV
      cases h1
      cases hc2 : (Nat.beq bigD bigD && (match (ofL A).get bigD with
        | none => true
        | some _ => false)) with
      | false => rw [hc2] at h2; cases h2
      | true =>
      rw [hc2] at h2
      simp only [cond_true] at h2
      split at h2
      · rename_i B2 V2 hB2 hV2
        simp only [Option.some.injEq, Snap.mk.injEq] at h2
        obtain ⟨e1, e2, e3, e4, e5⟩ := h2
        subst e1 e2 e3 e4 e5
        have k2 := HR.swap hr b2 hB hB2 b1
        have hbE : E bigD = none := by
          cases hx : E bigD with
          | none => rfl
          | some x =>
            have := @HR.dom d1 _ _ _ _ _ _ hr bigD x hx
            cases hy : xh.get bigD with
            | none => exact absurd hy this
            | some o => rw [hy] at hbig; cases hbig
        have h3 := @DsR.big E d1 _ (@FR.defers d1 _ _ _ _ hf) hbE
        refine hg _ a w (fun i hi x hx => by cases hi) (@FR.mk d2 _ _ _ _ ?_ ?_ (TR.swap (@FR.tr d1 _ _ _ _ hf) b2 hV hV2)) k2
        · rw [h3, hjk]; exact @DsR.rest d2 _
        · have h3 := @FR.ro d1 _ _ _ _ hf
          have hnon : ∀ {R : Option Nat}, RoR E none R → R = none := fun h => by cases h; rfl
          rw [hnon h3]
          exact .none
      · cases h2
    · cases h1
  · cases h1
end
theorem GoodJ.seg {d1 d2 : Den} {P : Program} (hm : P.follows .mixedOrders = true) (asm : Asm) (ents : List (FuncId × List Entry)) (hok : ∀ l, @AllOk (d1.wj l) P asm.l) (hlds : ∀ l, @LdsOk (d1.wj l) P asm.lds) (happs : ∀ l, @AppsOk (d1.wj l) P asm.apps) (hent : ∀ l, @EntsOK (d1.wj l) P ents) {N m : Nat} {g : FuncId} {res : Value} {x : Cfg}
    {τ : Ren} {ros : List Nat} {k : List KI} {e : Exit} {fv : FV} {n c : Nat} {A2 : HL}
    (h1 : (ksteps (@Sx.rec asm P (tblE noTbl ents) N) m x).bind (@snapJ d1 τ ros (fv.map (·.1))) = @snapJ d2 (idR A2) [] (fv.map (·.1)) (headJ k e fv n c A2)) (h2 : (@snapJ d2 (idR A2) [] (fv.map (·.1)) (headJ k e fv n c A2)).isSome = true)
    (hb : (nodupB (A2.map (·.1)) && injB τ) = true) (hg : GoodJ d2 P g res (headJ k e fv n c A2)) : GoodJ d1 P g res x := by
  refine ⟨fun fn hfn w00 F00 E00 Fe nn hW Ds w0 F0 hbase => ?_⟩
  cases hs : @snapJ d2 (idR A2) [] (fv.map (·.1)) (headJ k e fv n c A2) with
  | none => rw [hs] at h2; cases h2
  | some s =>
    rw [hs] at h1
    cases hk : ksteps (@Sx.rec asm P (tblE noTbl ents) N) m x with
    | none => rw [hk] at h1; cases h1
    | some y =>
      rw [hk] at h1
      have snd := @rec_sound P w0 F0 (d1.wj (Ds.map mkD)) asm (@asmOK_of (d1.wj (Ds.map mkD)) P asm.l asm.lds asm.apps (hok _) (hlds _) (happs _)) hm _ (@tblE_snd P w0 F0 (d1.wj (Ds.map mkD)) _ (@noTbl_sound (d1.wj (Ds.map mkD)) P w0 F0) _ (@EntsOK.all (d1.wj (Ds.map mkD)) P _ (hent _))) N
      exact @ksteps_soundA P w0 F0 Fe.plain nn _ [] E00 (d1.wj (Ds.map mkD)) _ snd.1 hW _ _ _ hk (GoodA.rebaseJ (d1 := d1.wj (Ds.map mkD)) (d2 := d2.wj (Ds.map mkD)) rfl (by rw [snapJ_wj]; exact h1) (by rw [snapJ_wj]; exact hs) hb (hg.get fn hfn w00 F00 E00 Fe nn hW Ds w0 F0 hbase))
theorem GoodJ.start {d : Den} {P : Program} {g : FuncId} {res : Value} {Aa : HL} {k : List KI} {e : Exit} {fv : FV} {n c : Nat} {A : HL} (hg : GoodJ d P g res (headJ k e fv n c A)) (h1 : (@snap d (idR A) [] (fv.map (·.1)) (headC k e fv n c A)).isSome = true) (hb : (nodupB (A.map (·.1)) && injB (idR A)) = true) :
    GoodS d P g Aa res [] [] (headC k e fv n c A) := by
  simp only [Bool.and_eq_true] at hb
  obtain ⟨b1, b2⟩ := hb
  refine ⟨fun fn hfn w F E0 Fe nn hW _ E a w1 _ hf hr => ?_⟩
  simp only [snap, headC] at h1
  split at h1
  · rename_i B V hB hV
    have k2 : @HR (d.wj []) P w F (envTo (idR A) (envOf (idR A) E)) (ofL A) w1 := HR.swap (d1 := d) (d2 := d.wj []) hr b2 hB (by rw [cvH_wj]; exact hB) b1
    have k3 : @TR (d.wj []) (envTo (idR A) (envOf (idR A) E)) ⟨ofV fv, n, none, [bigD]⟩ a.tmps := TR.swap (d1 := d) (d2 := d.wj []) (f := ⟨ofV fv, n, none, []⟩) (@FR.tr d _ _ _ _ hf) b2 hV (by rw [cvV_wj]; exact hV)
    refine hg.get fn hfn w F E0 Fe nn hW [] w F ⟨Keeps.refl' _ _, fun b h => .inr h, List.nodup_nil, fun D hD => by cases hD⟩ _ a w1 (fun i hi => by cases hi) (@FR.mk (d.wj []) _ _ _ _ ?_ ?_ k3) k2
    · have h3 := @FR.defers d _ _ _ _ hf
      have hnil : ∀ {D : List Deferred}, @DsR d E [] D → D = [] := fun h => by cases h; rfl
      rw [hnil h3]
      exact @DsR.rest (d.wj []) _
    · have h3 := @FR.ro d _ _ _ _ hf
      have hnon : ∀ {R : Option Nat}, RoR E none R → R = none := fun h => by cases h; rfl
      rw [hnon h3]
      exact .none
  · cases h1
end Go.Sx

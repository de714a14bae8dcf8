import Derived.Test.YtpennfojidpmeaaQk
namespace Go.Proofs.Ytpennfojidpmeaa
open Go.Sx Go.Deep Go.WideShapes
set_option maxRecDepth 20000
theorem bytes_of {f : Nat → Option Value} {n : Nat} (h : ∀ i, i < n → ∃ b : Int, 0 ≤ b ∧ b < 256 ∧ f i = some (.int .u8 b)) : ∃ g : Nat → Int, (∀ i, 0 ≤ g i ∧ g i < 256) ∧ ∀ i, i < n → f i = some (.int .u8 (g i)) := by
  refine ⟨fun i => if i < n then (match f i with
    | some (.int _ b) => b
    | _ => 0) else 0, fun i => ?_, fun i hi => ?_⟩
  · by_cases hi : i < n
    · obtain ⟨b, h1, h2, h3⟩ := h i hi
      simp only [if_pos hi, h3]
      exact ⟨h1, h2⟩
    · simp only [if_neg hi]
      decide
  · obtain ⟨b, h1, h2, h3⟩ := h i hi
    simp only [if_pos hi, h3]
def RpB (w : World) (k : Nat) (v : Value) (f : Nat → Int) (m : Nat) (cp : Nat) (e : Option EI) : Prop :=
  (m = 0 ∧ e = none ∧ ∃ b c, v = .slice b 0 c) ∨
  (1 ≤ m ∧ ∃ x : EI, e = some x ∧ (∃ cells T fz, w.heap[x.blk]? = some (Obj.cells cells T fz) ∧ ∀ i u, (byL f m)[i]? = some u → cells[x.off + i]? = some u) ∧ ∀ E : Env, E k = some x → VR0 E (.slice (some ⟨k, 0, none⟩) m cp) v)
theorem RpB.val {w : World} {k : Nat} {v : Value} {f : Nat → Int} {m : Nat} {cp : Nat} {e : Option EI} (h : RpB w k v f m cp e) {E : Env} (hE : E k = e) : VR0 E (mSl k m cp 2) v := by
  rcases h with ⟨rfl, rfl, b, c, rfl⟩ | ⟨h1, x, rfl, _, h2⟩
  · exact @VR.anS den0 E b c
  · rw [mSl_pos h1]; exact h2 E hE
theorem rpb_of {H : Type} {en : TypeId × Value → H} {W : World} {v : Value} {d : DataW H} {p : List MemPlace} {base : Nat} (k : Nat) (hv : Value.okWide Try.prog W .any base 66 v) (hd : DataW.Trod en Try.prog W 0 (fun _ => true) true 66 v d p) :
    ∃ (f : Nat → Int) (m : Nat) (cp : Nat) (e : Option EI), (∀ i, 0 ≤ f i ∧ f i < 256) ∧ RpB W k v f m cp e := by
  obtain ⟨a0, len0, cap0, rfl⟩ := okWide_slice Try.underlying66 hv
  obtain ⟨fuel, hf⟩ := hd
  have htr : DataW.trod en Try.prog W 0 (fun _ => true) true fuel 66 [.slice a0 len0 cap0] = some (d, p) := hf
  rcases open_slice Try.underlying66 htr with ⟨h1, _⟩ | ⟨a, len, cap, m, n, D, Pl, h1, _, hl, _, hm, _, hi⟩
  · cases h1
    exact ⟨fun _ => 0, 0, 0, none, fun _ => ⟨Int.le_refl 0, (by decide : (0 : Int) < 256)⟩, .inl ⟨rfl, rfl, _, _, rfl⟩⟩
  · cases h1
    rw [if_pos rfl] at hm
    subst hm
    by_cases h0 : len0 = 0
    · subst h0
      exact ⟨fun _ => 0, 0, 0, none, fun _ => ⟨Int.le_refl 0, (by decide : (0 : Int) < 256)⟩, .inl ⟨rfl, rfl, _, _, rfl⟩⟩
    have hC : Try.prog.cellsOf 5 = 1 := by kernel_rfl
    have hel : ∀ i, i < len0 → ∃ b : Int, 0 ≤ b ∧ b < 256 ∧ W.cell? (a.add i) = some (.int .u8 b) := fun i him => by
      obtain ⟨cs', hc, ht'⟩ := hi i (by omega)
      rw [hC] at hc
      obtain ⟨b, eb, _, wb⟩ := DataW.trod_int Try.underlying5 ht'
      obtain ⟨_, hcl, hat⟩ := World.cells?_some hc
      obtain ⟨b1, b2⟩ := wf_u8 wb
      refine ⟨b, b1, b2, ?_⟩
      have := hat 0 (by decide)
      rw [Go.Deep.add_add] at this
      rw [show i * 1 + 0 = i by omega] at this
      rw [this, eb]
      rfl
    obtain ⟨g, gb, hg⟩ := bytes_of (f := fun k => W.cell? (a.add k)) hel
    have hg0 : W.cell? (a.add 0) = some (.int .u8 (g 0)) := hg 0 (by omega)
    have a0' : a.add 0 = a := by cases a; rfl
    rw [a0'] at hg0
    obtain ⟨hs, cells, T, fz, hb, _⟩ := cell_at hg0
    refine ⟨g, len0, if m < HALF then m else INF, some ⟨a.block, a.off, m⟩, gb, .inr ⟨by omega, _, rfl, ⟨cells, T, fz, hb, fun i u hu => ?_⟩, fun E hE => ?_⟩⟩
    · have hil : i < len0 := by
        have := (List.getElem?_eq_some_iff.1 hu).1
        rw [byL_len] at this
        exact this
      rw [byL_get g hil] at hu
      cases hu
      have h1 := hg i hil
      rw [add_none hs] at h1
      obtain ⟨_, cells2, T2, fz2, hb2, h2⟩ := cell_at h1
      simp only at hb2 h2
      rw [hb] at hb2
      cases hb2
      exact h2
    · have hcap := fit_cap ⟨a.block, a.off, m⟩ (cap := m) rfl
      have := @VR.sl den0 E k 0 len0 (if m < HALF then m else INF) ⟨a.block, a.off, m⟩ a hE (by rw [hcap]; exact hl) (.inl (by cases a; simp only at hs; subst hs; rfl))
      rw [hcap] at this
      exact this
theorem call_b {w : World} {v2 x0 x1 : Value} {f : Nat → Int} {m : Nat} {c1 : Nat} {e1 : Option EI} {g : FuncId} (h1 : RpB w 0 v2 f m c1 e1) (p0 : cleanB x0 = true) (p1 : cleanB x1 = true)
    (hc : Ctr Try.prog g [x0, x1, mSl 0 m c1 2] [(0, rowOr 5 (byL f m) true)] (.bool true) []) :
    Calls Try.prog g #[x0, x1, v2] w fun e w' => e = .returned (.bool true) ∧ Go.RowKit.Below w.heap.size w w' := by
  let E : Env := fun i => if i = 0 then e1 else none
  let A : HL := [(0, rowOr 5 (byL f m) true)]
  have hget : ∀ {i : Nat} {o : AObj}, (ofL A).get i = some o → (i = 0 ∧ o = rowOr 5 (byL f m) true) := fun {i o} h => by
    rw [get_ofL] at h
    have := lkL_mem h
    simp only [A, List.mem_cons, List.not_mem_nil, or_false, Prod.mk.injEq] at this
    exact this
  have hro : ∀ {i : Nat} {o : AObj}, (ofL A).get i = some o → writable o = false := fun h => by
    obtain ⟨_, rfl⟩ := hget h
    exact (rowOr_live _ _ _).2
  have pl : ∀ {v : Value} {k : Nat}, (byL f m)[k]? = some v → plainS v = true := fun {v k} hk => List.all_eq_true.1 (byL_plain f m) v (List.mem_of_getElem? hk)
  have hne : 1 ≤ m → byL f m ≠ [] := fun h hh => by
    have := byL_len f m
    rw [hh] at this
    simp at this
    omega
  have hrow : HR0 Try.prog w (fun _ => False) E (ofL A) w := by
    refine @HR.mk den0 _ _ _ _ _ _ ⟨rfl, rfl, rfl, Nat.le_refl _, fun _ _ _ => rfl⟩ (fun i e h => ?_) (fun i o h => ?_) (fun i j o p x y hne hi hj hlo hlp hw hx hy => ?_) (fun i o e hi hw _ => ?_)
    · simp only [E] at h
      split at h
      · rename_i hi; subst hi; rw [get_ofL]; exact fun h => by cases h
      · cases h
    · obtain ⟨rfl, rfl⟩ := hget h
      rcases h1 with ⟨rfl, rfl, _⟩ | ⟨g1, x, rfl, ⟨cells, T, fz, hb, hg⟩, _⟩
      · exact .inl ⟨rfl, rfl⟩
      · rw [rowOr_pos (hne g1)]
        refine ⟨x, cells, rfl, ⟨T, fz, hb⟩, nofun, fun k v hk => ?_⟩
        rw [get_lst] at hk
        have hpv := pl hk
        exact ⟨v, hg k v hk, @VR.cleanS den0 _ _ (by cases v <;> first | rfl | (simp [plainS] at hpv)), by cases v <;> first | rfl | (simp [plainS] at hpv)⟩
    · exfalso
      have q1 := hro hi
      have q2 := hro hj
      rcases hw with hw | hw
      · rw [q1] at hw; cases hw
      · rw [q2] at hw; cases hw
    · rw [hro hi] at hw; cases hw
  have hargs : LR0 E [x0, x1, mSl 0 m c1 2] [x0, x1, v2] :=
    @LR.cons den0 E _ _ _ _ (VR0.clean p0) (@LR.cons den0 E _ _ _ _ (VR0.clean p1) (@LR.cons den0 E _ _ _ _ (h1.val rfl) (@LR.nil den0 E)))
  have := hc.2 w (fun _ => False) E [x0, x1, v2] hrow hargs Fence.wide 0 ⟨fun _ => trivial, rfl⟩
  exact (callsIn_wide.1 this).mono fun e w' ⟨v', E', h1, _, h3, h4⟩ => by
    cases h4
    exact ⟨h1, (@HR.keeps den0 _ _ _ _ _ _ h3).below⟩
end Go.Proofs.Ytpennfojidpmeaa

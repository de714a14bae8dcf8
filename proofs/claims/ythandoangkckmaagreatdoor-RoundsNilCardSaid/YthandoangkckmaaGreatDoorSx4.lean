import Derived.Test.YthandoangkckmaaGreatDoorSx3
import Derived.Laws.World
namespace Go.Sx

/-! ## The heaps -/
structure Keeps (w0 : World) (F : Nat → Prop) (w : World) : Prop where
  os : w.os = w0.os
  tape : w.tape = w0.tape
  output : w.output = w0.output
  size : w0.heap.size ≤ w.heap.size
  block : ∀ k, k < w0.heap.size → ¬ F k → w.heap[k]? = w0.heap[k]?

inductive PR [Den] (E : Env) : List (Value × Value) → List MapEntry → Prop
  | nil : PR E [] []
  | cons {k v : Value} {e : MapEntry} {xs : List (Value × Value)} {ys : List MapEntry} (hk : VR E k e.key) (hv : VR E v e.val) (h : PR E xs ys) : PR E ((k, v) :: xs) (e :: ys)
theorem PR.mono [Den] {E E' : Env} (h : E.le E') {xs : List (Value × Value)} {ys : List MapEntry} (hp : PR E xs ys) : PR E' xs ys := by
  induction hp with
  | nil => exact .nil
  | cons hk hv _ ih => exact .cons (hk.mono h) (hv.mono h) ih

structure TR [Den] (E : Env) (f : Fr) (tmps : Array Value) : Prop where
  size : tmps.size = f.n
  val : ∀ k v, f.t.get k = some v → k < f.n ∧ VR E v (tmps.getD k undef)
theorem TR.mono [Den] {E E' : Env} {f : Fr} {tmps : Array Value} (h : TR E f tmps) (hle : E.le E') : TR E' f tmps := ⟨h.size, fun k v hk => ⟨(h.val k v hk).1, (h.val k v hk).2.mono hle⟩⟩

def writable : AObj → Bool
  | .dead => false
  | .row _ _ ro => !ro
  | .orow _ _ ro => !ro
  | _ => true

def RowR [Den] (P : Program) (E : Env) (e : EI) (T : TypeId) (cs : Cells) (cells : Array Value) : Prop :=
  (∀ n, sizeB P T = some n → e.off + e.cap * n ≤ cells.size ∧ cs.len / n ≤ e.cap) ∧
  ∀ k v, cs.get k = some v → ∃ v', cells[e.off + k]? = some v' ∧ VR E v v' ∧ oneB v' = true
/-- A row of cells that none of them is frozen. -/
def RowAt (w : World) (b : Nat) (T : TypeId) (cells : Array Value) : Prop := ∃ fz : Nat × Nat, w.heap[b]? = some (.cells cells T fz) ∧ (fz.1 = fz.2 ∨ cells.size ≤ fz.1)
theorem free_of {n : Nat} {fz : Nat × Nat} (h : fz.1 = fz.2 ∨ n ≤ fz.1) : ∀ k, k < n → ¬ (fz.1 ≤ k ∧ k < fz.2) := fun k hk h2 => by
  rcases h with h | h
  · omega
  · omega
theorem RowAt.plain {w : World} {b : Nat} {T : TypeId} {cells : Array Value} (h : w.heap[b]? = some (.cells cells T (0, 0))) : RowAt w b T cells := ⟨(0, 0), h, .inl rfl⟩
def ObjR [Den] (P : Program) (E : Env) (w : World) (i : Nat) : AObj → Prop
  | .row T cs _ => ∃ e cells, E i = some e ∧ RowAt w e.blk T cells ∧ RowR P E e T cs cells
  | .map es bs clk => ∃ e ents clock, E i = some e ∧ w.heap[e.blk]? = some (.map ents clock) ∧ PR E es ents.toList ∧ ents.toList.map (·.born) = bs ∧ clock = clk
  | .iter m since seen last => ∃ e, E i = some e ∧ e.off = 0 ∧ ((m = none ∧ w.heap[e.blk]? = some (.mapIter none since seen.toArray last)) ∨ ∃ k x, m = some k ∧ E k = some x ∧ w.heap[e.blk]? = some (.mapIter (some x.blk) since seen.toArray last))
  | .loop st pe f ps a b d => ∃ e l, E i = some e ∧ w.heap[e.blk]? = some (.loop l) ∧ l.state = st ∧ l.pending = pe ∧ l.params.toList = ps ∧ l.assign = a ∧ l.body = b ∧ TR E f l.tmps ∧ ∃ ed, E d = some ed ∧ l.defers = ed.blk
  | .defd => ∃ e, E i = some e ∧ w.heap[e.blk]? = some (.deferred (some []))
  | .dead => True
  | .orow T j _ => ∃ e cells, E i = some e ∧ w.heap[e.blk]? = some (.cells cells T (0, 0)) ∧ (∀ n, sizeB P T = some n → e.off + e.cap * n ≤ cells.size) ∧ ∀ k v, (Den.row j)[k]? = some v → cells[e.off + k]? = some v

structure HR [Den] (P : Program) (w0 : World) (F : Nat → Prop) (E : Env) (H : Heap) (w : World) : Prop where
  keeps : Keeps w0 F w
  dom : ∀ i e, E i = some e → H.get i ≠ none
  obj : ∀ i o, H.get i = some o → ObjR P E w i o
  inj : ∀ i j o p e e', i ≠ j → H.get i = some o → H.get j = some p → live o = true → live p = true → (writable o = true ∨ writable p = true) → E i = some e → E j = some e' → e.blk ≠ e'.blk
  own : ∀ i o e, H.get i = some o → writable o = true → E i = some e → w0.heap.size ≤ e.blk ∨ F e.blk

section
variable {P : Program} {w0 : World} {F : Nat → Prop} {E : Env} {H : Heap} {w : World}

theorem ObjR.mono [Den] {E E' : Env} (h : E.le E') {i : Nat} {o : AObj} (ho : ObjR P E w i o) : ObjR P E' w i o := by
  cases o with
  | row T cs ro =>
    obtain ⟨e, cells, h1, h2, h3, h4⟩ := ho
    exact ⟨e, cells, h _ _ h1, h2, h3, fun k v hk => let ⟨v', a, b, c⟩ := h4 k v hk; ⟨v', a, b.mono h, c⟩⟩
  | map es bs clk =>
    obtain ⟨e, ents, clock, h1, h2, h3, h4⟩ := ho
    exact ⟨e, ents, clock, h _ _ h1, h2, h3.mono h, h4⟩
  | iter m since seen last =>
    obtain ⟨e, h1, h2, h3⟩ := ho
    refine ⟨e, h _ _ h1, h2, ?_⟩
    rcases h3 with h3 | ⟨k, x, h3, h4, h5⟩
    · exact .inl h3
    · exact .inr ⟨k, x, h3, h _ _ h4, h5⟩
  | loop st pe f ps a b d =>
    obtain ⟨e, l, h1, h2, h3, h4, h5, h6, h7, h8, ed, h9, h10⟩ := ho
    exact ⟨e, l, h _ _ h1, h2, h3, h4, h5, h6, h7, h8.mono h, ed, h _ _ h9, h10⟩
  | defd =>
    obtain ⟨e, h1, h2⟩ := ho
    exact ⟨e, h _ _ h1, h2⟩
  | dead => trivial
  | orow T j ro =>
    obtain ⟨e, cells, h1, h2⟩ := ho
    exact ⟨e, cells, h _ _ h1, h2⟩

theorem HR.blk_lt [Den] (hr : HR P w0 F E H w) {i : Nat} {o : AObj} {e : EI} (hi : H.get i = some o) (hl : live o = true) (he : E i = some e) : e.blk < w.heap.size := by
  have hb : w.heap[e.blk]? ≠ none := by
    have := hr.obj i o hi
    cases o with
    | row T cs ro => obtain ⟨e', c, h1, ⟨fz, h2, _⟩, _⟩ := this; rw [he] at h1; cases h1; rw [h2]; simp
    | map es bs clk => obtain ⟨e', c, k, h1, h2, _⟩ := this; rw [he] at h1; cases h1; rw [h2]; simp
    | iter m since seen last =>
      obtain ⟨e', h1, _, h3⟩ := this
      rw [he] at h1; cases h1
      rcases h3 with ⟨_, h3⟩ | ⟨k, x, _, _, h3⟩ <;> (rw [h3]; simp)
    | loop st pe f ps a b d => obtain ⟨e', l, h1, h2, _⟩ := this; rw [he] at h1; cases h1; rw [h2]; simp
    | defd => obtain ⟨e', h1, h2⟩ := this; rw [he] at h1; cases h1; rw [h2]; simp
    | orow T j ro => obtain ⟨e', c, h1, h2, _⟩ := this; rw [he] at h1; cases h1; rw [h2]; simp
    | dead => simp [live] at hl
  rcases Nat.lt_or_ge e.blk w.heap.size with h | h
  · exact h
  · exact absurd (Array.getElem?_eq_none h) hb

/-- A draw turns no block. -/
theorem HR.heap [Den] (hr : HR P w0 F E H w) {w' : World} (h : w'.heap = w.heap) (h1 : w'.os = w.os) (h2 : w'.tape = w.tape) (h3 : w'.output = w.output) : HR P w0 F E H w' := by
  refine ⟨⟨h1.trans hr.keeps.os, h2.trans hr.keeps.tape, h3.trans hr.keeps.output, by rw [h]; exact hr.keeps.size, by rw [h]; exact hr.keeps.block⟩, hr.dom, fun i o hi => ?_, hr.inj, hr.own⟩
  have := hr.obj i o hi
  cases o <;> simp only [ObjR, RowAt, h] at * <;> exact this
theorem HR.drew [Den] (hr : HR P w0 F E H w) (n : Nat) : HR P w0 F E H { w with drawn := n } := hr.heap rfl rfl rfl rfl

theorem rd_inv {i k c : Nat} {v : Value} {c' : Nat} {H' : Heap} {L : Lg} (h : rd i k c H = .ok v c' H' L) : c' = c ∧ H' = H ∧ L = .one (.cell i k false) ∧ ∃ T cs ro, H.get i = some (.row T cs ro) ∧ cs.get k = some v := by
  unfold rd at h
  split at h
  · rename_i T cs ro hi
    split at h
    · rename_i u hk; cases h; exact ⟨rfl, rfl, rfl, T, cs, ro, hi, hk⟩
    · cases h
  · cases h

theorem cell_of_row {cells : Array Value} {T : TypeId} {fz : Nat × Nat} {b k : Nat} {v : Value} (h : w.heap[b]? = some (.cells cells T fz)) (hk : cells[k]? = some v) : w.cell? ⟨b, k, none⟩ = some v := by
  simp [World.cell?, h, hk]
theorem frozen_of_row {cells : Array Value} {T : TypeId} {b k : Nat} (h : RowAt w b T cells) (hk : k < cells.size) : w.frozen? ⟨b, k, none⟩ = false := by
  obtain ⟨fz, h1, h2⟩ := h
  have := free_of h2 k hk
  simp only [World.frozen?, h1]
  simp only [Bool.and_eq_false_iff, decide_eq_false_iff_not]
  omega
theorem cell_of_rowAt {cells : Array Value} {T : TypeId} {b k : Nat} {v : Value} (h : RowAt w b T cells) (hk : cells[k]? = some v) : w.cell? ⟨b, k, none⟩ = some v := by
  obtain ⟨fz, h1, _⟩ := h
  exact cell_of_row h1 hk

theorem rd_sound [Den] (hr : HR P w0 F E H w) {i k c : Nat} {v : Value} {c' : Nat} {H' : Heap} {L : Lg} (h : rd i k c H = .ok v c' H' L) {e : EI} (he : E i = some e) :
    ∃ v', w.cell? ⟨e.blk, e.off + k, none⟩ = some v' ∧ VR E v v' ∧ oneB v' = true := by
  obtain ⟨_, _, _, T, cs, ro, hi, hk⟩ := rd_inv h
  obtain ⟨e', cells, h1, h2, _, h4⟩ := hr.obj i _ hi
  rw [he] at h1; cases h1
  obtain ⟨v', a, b, d⟩ := h4 k v hk
  exact ⟨v', cell_of_rowAt h2 a, b, d⟩

theorem rd_dom [Den] (hr : HR P w0 F E H w) {i k c : Nat} {v : Value} {c' : Nat} {H' : Heap} {L : Lg} (h : rd i k c H = .ok v c' H' L) : ∃ e, E i = some e := by
  obtain ⟨_, _, _, T, cs, ro, hi, hk⟩ := rd_inv h
  obtain ⟨e', cells, h1, _⟩ := hr.obj i _ hi
  exact ⟨e', h1⟩

theorem heap_setCell_row {cells : Array Value} {T : TypeId} {fz : Nat × Nat} {b k : Nat} {v : Value} (h : w.heap[b]? = some (.cells cells T fz)) :
    (w.setCell ⟨b, k, none⟩ v).heap[b]? = some (.cells (cells.setIfInBounds k v) T fz) := by
  simp [World.setCell, Array.getElem?_modify, h]
theorem RowAt.setCell {cells : Array Value} {T : TypeId} {b k : Nat} {v : Value} (h : RowAt w b T cells) : RowAt (w.setCell ⟨b, k, none⟩ v) b T (cells.setIfInBounds k v) := by
  obtain ⟨fz, h1, h2⟩ := h
  exact ⟨fz, heap_setCell_row h1, by simpa using h2⟩
theorem heap_setCell_ne {b k c : Nat} {v : Value} (h : b ≠ c) : (w.setCell ⟨b, k, none⟩ v).heap[c]? = w.heap[c]? := by
  simp [World.setCell, Array.getElem?_modify, h]
theorem size_setCell (a : Addr) (v : Value) : (w.setCell a v).heap.size = w.heap.size := by simp [World.setCell]

theorem wr_inv {i k c : Nat} {v : Value} {c' : Nat} {H' : Heap} {L : Lg} (h : wr i k v c H = .ok () c' H' L) : c' = c ∧ L = .app (.one (.info i)) (.one (.cell i k true)) ∧ oneB v = true ∧ ∃ T cs u, H.get i = some (.row T cs false) ∧ cs.get k = some u ∧ H' = H.set i (.row T (cs.set k v) false) := by
  unfold wr at h
  split at h
  · rename_i T cs hi
    split at h
    · rename_i u hk
      cases ho : oneB v with
      | true => rw [ho] at h; simp only [cond_true] at h; cases h; exact ⟨rfl, rfl, rfl, T, cs, u, hi, hk, rfl⟩
      | false => rw [ho] at h; simp at h
    · cases h
  · cases h

/-- What a world keeps where one block is turned. -/
theorem HR.turn [Den] (hr : HR P w0 F E H w) {i : Nat} {o o' : AObj} {e : EI} {w' : World} (hi : H.get i = some o) (hl : live o = true) (hwr : writable o = true) (he : E i = some e)
    (hk : w'.os = w.os) (hk2 : w'.tape = w.tape) (hk3 : w'.output = w.output) (hs : w'.heap.size = w.heap.size) (hb : ∀ b, b ≠ e.blk → w'.heap[b]? = w.heap[b]?) (ho : ObjR P E w' i o') :
    HR P w0 F E (H.set i o') w' := by
  refine ⟨⟨hk.trans hr.keeps.os, hk2.trans hr.keeps.tape, hk3.trans hr.keeps.output, by rw [hs]; exact hr.keeps.size, fun k hlt hF => ?_⟩, fun j x hj => ?_, fun j p hj => ?_, fun j m p q x y hne hj hm hlp hlq hw hx hy => ?_, fun j p x hj hw hx => ?_⟩
  · have hne : k ≠ e.blk := fun hke => by
      rcases hr.own i o e hi hwr he with h | h
      · omega
      · exact hF (hke ▸ h)
    rw [hb k hne]; exact hr.keeps.block k hlt hF
  · by_cases hji : j = i
    · subst hji; rw [Tr.get_set_self]; simp
    · rw [Tr.get_set_ne _ _ hji]; exact hr.dom j x hj
  · by_cases hji : j = i
    · subst hji; rw [Tr.get_set_self] at hj; cases hj; exact ho
    · rw [Tr.get_set_ne _ _ hji] at hj
      have hq := hr.obj j p hj
      cases p with
      | row T cs ro =>
        obtain ⟨x, cells, h1, h2, h3⟩ := hq
        exact ⟨x, cells, h1, by unfold RowAt; rw [hb _ (hr.inj j i _ _ x e hji hj hi rfl hl (.inr hwr) h1 he)]; exact h2, h3⟩
      | map es bs clk =>
        obtain ⟨x, ents, clock, h1, h2, h3⟩ := hq
        exact ⟨x, ents, clock, h1, by rw [hb _ (hr.inj j i _ _ x e hji hj hi rfl hl (.inr hwr) h1 he)]; exact h2, h3⟩
      | iter m since seen last =>
        obtain ⟨x, h1, h2, h3⟩ := hq
        have hq := hb _ (hr.inj j i _ _ x e hji hj hi rfl hl (.inr hwr) h1 he)
        exact ⟨x, h1, h2, by rw [hq]; exact h3⟩
      | loop st pe f ps a b d =>
        obtain ⟨x, l, h1, h2, h3⟩ := hq
        exact ⟨x, l, h1, by rw [hb _ (hr.inj j i _ _ x e hji hj hi rfl hl (.inr hwr) h1 he)]; exact h2, h3⟩
      | defd =>
        obtain ⟨x, h1, h2⟩ := hq
        exact ⟨x, h1, by rw [hb _ (hr.inj j i _ _ x e hji hj hi rfl hl (.inr hwr) h1 he)]; exact h2⟩
      | dead => trivial
      | orow T j ro =>
        obtain ⟨x, cells, h1, h2, h3⟩ := hq
        exact ⟨x, cells, h1, by rw [hb _ (hr.inj _ i _ _ x e hji hj hi rfl hl (.inr hwr) h1 he)]; exact h2, h3⟩
  · by_cases hji : j = i
    · subst hji
      have hmi : m ≠ j := fun h => hne h.symm
      rw [Tr.get_set_ne _ _ hmi] at hm
      exact hr.inj j m o q x y hne hi hm hl hlq (.inl hwr) hx hy
    · rw [Tr.get_set_ne _ _ hji] at hj
      by_cases hmi : m = i
      · subst hmi
        exact hr.inj j m p o x y hne hj hi hlp hl (.inr hwr) hx hy
      · rw [Tr.get_set_ne _ _ hmi] at hm
        exact hr.inj j m p q x y hne hj hm hlp hlq hw hx hy
  · by_cases hji : j = i
    · subst hji; exact hr.own j o x hi hwr hx
    · rw [Tr.get_set_ne _ _ hji] at hj; exact hr.own j p x hj hw hx

theorem wr_sound [Den] (hr : HR P w0 F E H w) {i k c : Nat} {v v' : Value} {c' : Nat} {H' : Heap} {L : Lg} (h : wr i k v c H = .ok () c' H' L) {e : EI} (he : E i = some e) (hv : VR E v v') :
    (∃ u, w.cell? ⟨e.blk, e.off + k, none⟩ = some u) ∧ w.frozen? ⟨e.blk, e.off + k, none⟩ = false ∧ HR P w0 F E H' (w.setCell ⟨e.blk, e.off + k, none⟩ v') := by
  obtain ⟨_, _, ho, T, cs, u, hi, hk, rfl⟩ := wr_inv h
  obtain ⟨e', cells, h1, h2, h3, h4⟩ := hr.obj i _ hi
  rw [he] at h1; cases h1
  obtain ⟨u', a, b, d⟩ := h4 k u hk
  refine ⟨⟨u', cell_of_rowAt h2 a⟩, frozen_of_row h2 (Array.getElem?_eq_some_iff.1 a).1, ?_⟩
  refine hr.turn hi rfl rfl he rfl rfl rfl (size_setCell _ _) (fun b hb => heap_setCell_ne (Ne.symm hb)) ⟨e, _, he, h2.setCell, fun n hn => by rw [Cells.len_set]; simpa using h3 n hn, fun j x hj => ?_⟩
  rw [Cells.get_set hk] at hj
  by_cases hjk : j = k
  · subst hjk
    simp only [if_true, Option.some.injEq] at hj
    subst hj
    refine ⟨v', ?_, hv, by rw [hv.oneB]; exact ho⟩
    have hlt : e.off + j < cells.size := (Array.getElem?_eq_some_iff.1 a).1
    simp [hlt]
  · simp only [hjk, if_false] at hj
    obtain ⟨x', a', b', d'⟩ := h4 j x hj
    refine ⟨x', ?_, b', d'⟩
    rw [Array.getElem?_setIfInBounds_ne (by omega)]; exact a'

theorem newA_inv {o : AObj} {c j c' : Nat} {H' : Heap} {L : Lg} (h : newA o c H = .ok j c' H' L) : j = c ∧ c' = c + 1 ∧ H.get c = none ∧ H' = H.set c o ∧ L = .one (.row c true) := by
  unfold newA at h
  split at h
  · rename_i hn; cases h; exact ⟨rfl, rfl, hn, rfl, rfl⟩
  · cases h

/-- A new block. -/
theorem HR.fresh [Den] (hr : HR P w0 F E H w) {j : Nat} {o : AObj} {b : Obj} {cap : Nat} (hj : H.get j = none)
    (ho : ∀ w', w'.heap = w.heap.push b → ObjR P (E.upd j ⟨w.heap.size, 0, cap⟩) w' j o) :
    E.le (E.upd j ⟨w.heap.size, 0, cap⟩) ∧ HR P w0 F (E.upd j ⟨w.heap.size, 0, cap⟩) (H.set j o) { w with heap := w.heap.push b } := by
  have hE : E j = none := by
    cases h : E j with
    | none => rfl
    | some e => exact absurd hj (hr.dom j e h)
  have hle := Env.le_upd (e := ⟨w.heap.size, 0, cap⟩) hE
  have hold : ∀ k, k < w.heap.size → (w.heap.push b)[k]? = w.heap[k]? := fun k hk => by rw [Array.getElem?_push, if_neg (by omega)]
  refine ⟨hle, ⟨⟨hr.keeps.os, hr.keeps.tape, hr.keeps.output, ?_, fun k hk hF => ?_⟩, fun i e hi => ?_, fun i p hi => ?_, fun i m p q x y hne hi hm hlp hlq hw hx hy => ?_, fun i p x hi hw hx => ?_⟩⟩
  · have := hr.keeps.size; simp; omega
  · have := hr.keeps.size
    show (w.heap.push b)[k]? = _
    rw [hold k (by omega)]; exact hr.keeps.block k hk hF
  · by_cases hij : i = j
    · subst hij; rw [Tr.get_set_self]; simp
    · rw [Tr.get_set_ne _ _ hij]
      simp only [Env.upd, hij, if_false] at hi
      exact hr.dom i e hi
  · by_cases hij : i = j
    · subst hij; rw [Tr.get_set_self] at hi; cases hi; exact ho _ rfl
    · rw [Tr.get_set_ne _ _ hij] at hi
      have hq := hr.obj i p hi
      have hq' := ObjR.mono hle hq
      cases p with
      | row T cs ro =>
        obtain ⟨x, cells, h1, h2, h3⟩ := hq
        have hlt := hr.blk_lt hi rfl h1
        obtain ⟨x', cells', k1, k2, k3⟩ := hq'
        have : E.upd j ⟨w.heap.size, 0, cap⟩ i = some x := hle _ _ h1
        rw [this] at k1; cases k1
        exact ⟨x, cells', this, by obtain ⟨fz, k4, k5⟩ := k2; exact ⟨fz, by show (w.heap.push b)[x.blk]? = _; rw [hold _ hlt]; exact k4, k5⟩, k3⟩
      | map es bs clk =>
        obtain ⟨x, ents, clock, h1, h2, h3, h4⟩ := hq
        have hlt := hr.blk_lt hi rfl h1
        exact ⟨x, ents, clock, hle _ _ h1, by show (w.heap.push b)[x.blk]? = _; rw [hold _ hlt]; exact h2, h3.mono hle, h4⟩
      | iter m since seen last =>
        obtain ⟨x, h1, h2, h3⟩ := hq
        have hlt := hr.blk_lt hi rfl h1
        refine ⟨x, hle _ _ h1, h2, ?_⟩
        have hq : (w.heap.push b)[x.blk]? = w.heap[x.blk]? := hold _ hlt
        rcases h3 with ⟨h3, h4⟩ | ⟨k, y, h3, h4, h5⟩
        · exact .inl ⟨h3, hq.trans h4⟩
        · exact .inr ⟨k, y, h3, hle _ _ h4, hq.trans h5⟩
      | loop st pe f ps a d dd =>
        obtain ⟨x, l, h1, h2, h3, h4, h5, h6, h7, h8, ed, h9, h10⟩ := hq
        have hlt := hr.blk_lt hi rfl h1
        exact ⟨x, l, hle _ _ h1, by show (w.heap.push b)[x.blk]? = _; rw [hold _ hlt]; exact h2, h3, h4, h5, h6, h7, h8.mono hle, ed, hle _ _ h9, h10⟩
      | defd =>
        obtain ⟨x, h1, h2⟩ := hq
        have hlt := hr.blk_lt hi rfl h1
        exact ⟨x, hle _ _ h1, by show (w.heap.push b)[x.blk]? = _; rw [hold _ hlt]; exact h2⟩
      | orow T j ro =>
        obtain ⟨x, cells, h1, h2, h3⟩ := hq
        have hlt := hr.blk_lt hi rfl h1
        obtain ⟨x', cells', k1, k2, k3⟩ := hq'
        have : E.upd _ ⟨w.heap.size, 0, cap⟩ i = some x := hle _ _ h1
        rw [this] at k1; cases k1
        exact ⟨x, cells', this, by show (w.heap.push b)[x.blk]? = _; rw [hold _ hlt]; exact k2, k3⟩
      | dead => trivial
  · have hs : ∀ k x, E.upd j ⟨w.heap.size, 0, cap⟩ k = some x → (k = j ∧ x = ⟨w.heap.size, 0, cap⟩) ∨ (k ≠ j ∧ E k = some x) := fun k x hk => by
      unfold Env.upd at hk
      by_cases hkj : k = j
      · simp [hkj] at hk; exact .inl ⟨hkj, hk.symm⟩
      · simp [hkj] at hk; exact .inr ⟨hkj, hk⟩
    rcases hs i x hx with ⟨rfl, rfl⟩ | ⟨h1, h2⟩ <;> rcases hs m y hy with ⟨rfl, rfl⟩ | ⟨h3, h4⟩
    · exact absurd rfl hne
    · rw [Tr.get_set_ne _ _ h3] at hm
      have := hr.blk_lt hm hlq h4
      simp; omega
    · rw [Tr.get_set_ne _ _ h1] at hi
      have := hr.blk_lt hi hlp h2
      simp; omega
    · rw [Tr.get_set_ne _ _ h1] at hi
      rw [Tr.get_set_ne _ _ h3] at hm
      exact hr.inj i m p q x y hne hi hm hlp hlq hw h2 h4
  · by_cases hij : i = j
    · subst hij
      simp only [Env.upd, if_true, Option.some.injEq] at hx
      subst hx; exact .inl hr.keeps.size
    · rw [Tr.get_set_ne _ _ hij] at hi
      simp only [Env.upd, hij, if_false] at hx
      exact hr.own i p x hi hw hx

/-- A new row, of cells read off a list. -/
theorem HR.newRow [Den] (hr : HR P w0 F E H w) {j : Nat} {T : TypeId} {cs cs' : List Value} {more : List Value} {cap : Nat} (hj : H.get j = none) (hc : LR E cs cs') (h1 : cs.all oneB = true)
    (hcap : ∀ n, sizeB P T = some n → cap * n ≤ (cs' ++ more).length ∧ cs.length / n ≤ cap) :
    E.le (E.upd j ⟨w.heap.size, 0, cap⟩) ∧ HR P w0 F (E.upd j ⟨w.heap.size, 0, cap⟩) (H.set j (.row T (mkCells cs) false)) { w with heap := w.heap.push (.cells (cs' ++ more).toArray T (0, 0)) } := by
  have hE : E j = none := by
    cases h : E j with
    | none => rfl
    | some e => exact absurd hj (hr.dom j e h)
  have hle := Env.le_upd (e := ⟨w.heap.size, 0, cap⟩) hE
  refine hr.fresh hj fun w' hw' => ⟨_, (cs' ++ more).toArray, by simp [Env.upd]; rfl, .plain (by rw [hw']; simp), fun n hn => by rw [mkCells_len]; simpa using hcap n hn, fun k v hk => ?_⟩
  rw [mkCells_get] at hk
  obtain ⟨y, hy, hv⟩ := hc.get hk
  refine ⟨y, ?_, hv.mono hle, ?_⟩
  · have hlt : k < cs'.length := (List.getElem?_eq_some_iff.1 hy).1
    simp only [Nat.zero_add, List.getElem?_toArray]
    rw [List.getElem?_append_left hlt]; exact hy
  · rw [hv.oneB]; exact List.all_eq_true.1 h1 v (List.mem_of_getElem? hk)
/-- A row may be held in another form. -/
theorem HR.recell [Den] {j : Nat} {T : TypeId} {C C' : Cells} {b : Bool} {H : Heap} (hr : HR P w0 F E (H.set j (.row T C b)) w) (hg : ∀ k, C'.get k = C.get k) (hl : C'.len = C.len) : HR P w0 F E (H.set j (.row T C' b)) w := by
  have key : ∀ i o, (H.set j (.row T C' b)).get i = some o → ∃ o', (H.set j (.row T C b)).get i = some o' ∧ live o' = live o ∧ writable o' = writable o ∧ (ObjR P E w i o' → ObjR P E w i o) := by
    intro i o ho
    rw [Tr.get_set] at ho
    by_cases hi : i = j
    · subst hi
      rw [if_pos rfl] at ho
      cases ho
      refine ⟨_, Tr.get_set_self _ _ _, rfl, rfl, fun ⟨e, cells, h1, h2, h3, h4⟩ => ⟨e, cells, h1, h2, fun n hn => by rw [hl]; exact h3 n hn, fun k v hk => h4 k v (by rw [← hg k]; exact hk)⟩⟩
    · rw [if_neg hi] at ho
      exact ⟨o, by rw [Tr.get_set_ne _ _ hi]; exact ho, rfl, rfl, fun h => h⟩
  refine ⟨hr.keeps, fun i e he => ?_, fun i o ho => ?_, fun i m o p e e' hne ho hp hlo hlp hw he he' => ?_, fun i o e ho hw he => ?_⟩
  · have := hr.dom i e he
    rw [Tr.get_set] at this ⊢
    split
    · simp
    · rename_i h; rw [if_neg h] at this; exact this
  · obtain ⟨o', h1, _, _, h4⟩ := key i o ho
    exact h4 (hr.obj i o' h1)
  · obtain ⟨o', h1, h2, h3, _⟩ := key i o ho
    obtain ⟨p', g1, g2, g3, _⟩ := key m p hp
    exact hr.inj i m o' p' e e' hne h1 g1 (h2 ▸ hlo) (g2 ▸ hlp) (by rw [h3, g3]; exact hw) he he'
  · obtain ⟨o', h1, h2, h3, _⟩ := key i o ho
    exact hr.own i o' e h1 (h3 ▸ hw) he
end
/-- What is to be shown of a read, and of an append. -/
def LdE.Ok [Den] (P : Program) (e : LdE) : Prop := ∀ (w0 : World) (F : Nat → Prop) (E : Env) (H : Heap) (w : World) (T : TypeId) (ro : Bool) (a' : Value), HR P w0 F E H w → H.get e.id = some (.orow T e.j ro) → VR E (.chan (some e.k)) a' →
  ∃ v', (Instr.loadAt e.t a').run P w = .ok v' w ∧ VR E e.v v'
def AppOk1 [Den] (P : Program) (ats : List TypeId) (e : Entry) : Prop := ∀ (w0 : World) (F : Nat → Prop) (E : Env) (H : Heap) (w : World) (c' : Nat) (v : Value) (H' : Heap) (L : Lg) (args' : List Value) (ty : TypeId) (at' : Array TypeId), runE e e.c H = .ok v c' H' L → HR P w0 F E H w → LR E e.args args' → at'.toList = ats →
  ∃ v' w' E', (Builtin.append_ at' ty args'.toArray).run P w = .ok v' w' ∧ E.le E' ∧ HR P w0 F E' H' w' ∧ VR E' v v'
def LdOk1 [Den] (P : Program) (t : TypeId) (e : Entry) : Prop := ∀ (w0 : World) (F : Nat → Prop) (E : Env) (H : Heap) (w : World) (c' : Nat) (v : Value) (H' : Heap) (L : Lg) (args' : List Value), runE e e.c H = .ok v c' H' L → HR P w0 F E H w → LR E e.args args' →
  ∀ a', args' = [a'] → ∃ v', (Instr.loadAt t a').run P w = .ok v' w ∧ ∃ E', E.le E' ∧ HR P w0 F E' H' w ∧ VR E' v v'
def StOk1 [Den] (P : Program) (t : TypeId) (e : Entry) : Prop := ∀ (w0 : World) (F : Nat → Prop) (E : Env) (H : Heap) (w : World) (c' : Nat) (v : Value) (H' : Heap) (L : Lg) (args' : List Value), runE e e.c H = .ok v c' H' L → HR P w0 F E H w → LR E e.args args' →
  ∀ a' v', args' = [a', v'] → ∃ w', (Instr.storeAt t a' v').run P w = .ok () w' ∧ ∃ E', E.le E' ∧ HR P w0 F E' H' w'
/-- What is to be shown of an append, of a read, of a write that is known. -/
def AppOk [Den] (P : Program) (ats : List TypeId) (e : Entry) : Prop := (ats.any (Nat.ble 1000000) = false → AppOk1 P ats e) ∧ (∀ t, ats = [t, 1000000] → LdOk1 P t e) ∧ (∀ t, ats = [t, 1000001] → StOk1 P t e)
class AsmOK [Den] (P : Program) [Asm] : Prop where
  ok : ∀ k v, asmGet k = some v → k.Ok P v
  ld : ∀ e ∈ Asm.lds, e.Ok P
  app : ∀ p ∈ Asm.apps, AppOk P p.1 p.2
theorem truth_sound [Den] {P : Program} [Asm] [AsmOK P] {E : Env} {v v' : Value} {b : Bool} (h : truth v = some b) (hv : VR E v v') : v' = .bool b := by
  unfold truth at h
  split at h
  · cases h; cases hv; rfl
  · split at h
    · rename_i hk
      cases h
      have : Value.bool b = Den.v _ := AsmOK.ok (P := P) _ _ hk
      cases hv with
      | sym k i hh => rw [hh, ← this]
    · cases h
  · cases h
end Go.Sx

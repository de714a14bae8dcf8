import Derived.Test.YtjpgnjaobfbojaaSx2
import Derived.Laws.Sem
namespace Go.Sx

/-! ## Tries -/
theorem Tr.get_setF {α : Type} (v : α) : ∀ (f : Nat) (t : Tr α) (k j : Nat), k < f → (Tr.setF v f t k).get j = if j = k then some v else t.get j := by
  intro f
  induction f with
  | zero => intro t k j h; omega
  | succ f ih =>
    intro t k j hk
    have hmod : ∀ a b : Nat, a % 2 = b % 2 → a / 2 = b / 2 → a = b := fun a b h1 h2 => by omega
    cases t with
    | nil =>
      cases k with
      | zero => cases j <;> simp [Tr.setF, Tr.get]
      | succ k =>
        have hk2 : k / 2 < f := by omega
        cases j with
        | zero => simp only [Tr.setF]; cases hb : Nat.beq (k % 2) 0 <;> simp [Tr.get]
        | succ j =>
          simp only [Tr.setF]
          cases hb : Nat.beq (k % 2) 0 <;> cases hc : Nat.beq (j % 2) 0 <;>
            simp only [Tr.get, cond_true, cond_false, hc, ih _ _ _ hk2]
          · have h1 : k % 2 ≠ 0 := fun h => by rw [h] at hb; cases hb
            have h2 : j % 2 ≠ 0 := fun h => by rw [h] at hc; cases hc
            by_cases h : j / 2 = k / 2
            · have : j = k := by omega
              simp [this]
            · have : j ≠ k := fun e => h (by rw [e])
              simp [h, this]
          · have h1 : k % 2 ≠ 0 := fun h => by rw [h] at hb; cases hb
            have h2 : j % 2 = 0 := Nat.eq_of_beq_eq_true hc
            have : j ≠ k := fun e => h1 (e ▸ h2)
            simp [this]
          · have h1 : k % 2 = 0 := Nat.eq_of_beq_eq_true hb
            have h2 : j % 2 ≠ 0 := fun h => by rw [h] at hc; cases hc
            have : j ≠ k := fun e => h2 (e ▸ h1)
            simp [this]
          · have h1 : k % 2 = 0 := Nat.eq_of_beq_eq_true hb
            have h2 : j % 2 = 0 := Nat.eq_of_beq_eq_true hc
            by_cases h : j / 2 = k / 2
            · have : j = k := by omega
              simp [this]
            · have : j ≠ k := fun e => h (by rw [e])
              simp [h, this]
    | node u l r =>
      cases k with
      | zero => cases j <;> simp [Tr.setF, Tr.get]
      | succ k =>
        have hk2 : k / 2 < f := by omega
        cases j with
        | zero => simp only [Tr.setF]; cases hb : Nat.beq (k % 2) 0 <;> simp [Tr.get]
        | succ j =>
          simp only [Tr.setF]
          cases hb : Nat.beq (k % 2) 0 <;> cases hc : Nat.beq (j % 2) 0 <;>
            simp only [Tr.get, cond_true, cond_false, hc, ih _ _ _ hk2]
          · have h1 : k % 2 ≠ 0 := fun h => by rw [h] at hb; cases hb
            have h2 : j % 2 ≠ 0 := fun h => by rw [h] at hc; cases hc
            by_cases h : j / 2 = k / 2
            · have : j = k := by omega
              simp [this]
            · have : j ≠ k := fun e => h (by rw [e])
              simp [h, this]
          · have h1 : k % 2 ≠ 0 := fun h => by rw [h] at hb; cases hb
            have h2 : j % 2 = 0 := Nat.eq_of_beq_eq_true hc
            have : j ≠ k := fun e => h1 (e ▸ h2)
            simp [this]
          · have h1 : k % 2 = 0 := Nat.eq_of_beq_eq_true hb
            have h2 : j % 2 ≠ 0 := fun h => by rw [h] at hc; cases hc
            have : j ≠ k := fun e => h2 (e ▸ h1)
            simp [this]
          · have h1 : k % 2 = 0 := Nat.eq_of_beq_eq_true hb
            have h2 : j % 2 = 0 := Nat.eq_of_beq_eq_true hc
            by_cases h : j / 2 = k / 2
            · have : j = k := by omega
              simp [this]
            · have : j ≠ k := fun e => h (by rw [e])
              simp [h, this]
theorem Tr.get_set {α : Type} (t : Tr α) (k j : Nat) (v : α) : (t.set k v).get j = if j = k then some v else t.get j := Tr.get_setF v _ _ _ _ (by omega)
theorem Tr.get_set_self {α : Type} (t : Tr α) (k : Nat) (v : α) : (t.set k v).get k = some v := by simp [Tr.get_set]
theorem Tr.get_set_ne {α : Type} (t : Tr α) {k j : Nat} (v : α) (h : j ≠ k) : (t.set k v).get j = t.get j := by simp [Tr.get_set, h]

theorem blt_iff {a b : Nat} : Nat.blt a b = true ↔ a < b := by simp [Nat.blt_eq]
theorem Cells.get_set {cs : Cells} {k : Nat} {u v : Value} (h : cs.get k = some u) (j : Nat) : (cs.set k v).get j = if j = k then some v else cs.get j := by
  cases cs with
  | lst l =>
    simp only [Cells.get, Cells.set] at *
    have hk : k < l.length := (List.getElem?_eq_some_iff.1 h).1
    by_cases hj : j = k
    · subst hj; simp [hk]
    · rw [List.getElem?_set_ne (Ne.symm hj)]; simp [hj]
  | tr t n =>
    simp only [Cells.get, Cells.set] at *
    by_cases hj : j = k
    · subst hj
      cases hb : Nat.blt j n with
      | false => rw [hb] at h; simp at h
      | true => simp [Tr.get_set]
    · simp [Tr.get_set, hj]
theorem Cells.len_set (cs : Cells) (k : Nat) (v : Value) : (cs.set k v).len = cs.len := by cases cs <;> simp [Cells.set, Cells.len]
theorem Cells.get_lt {cs : Cells} {k : Nat} {v : Value} (h : cs.get k = some v) : k < cs.len := by
  cases cs with
  | lst l => exact (List.getElem?_eq_some_iff.1 h).1
  | tr t n =>
    simp only [Cells.get] at h
    cases hb : Nat.blt k n with
    | false => rw [hb] at h; simp at h
    | true => exact blt_iff.1 hb

/-! ## What an abstract value stands for -/
structure EI where
  blk : Nat
  off : Nat
  cap : Nat
abbrev Env := Nat → Option EI
def Env.le (E E' : Env) : Prop := ∀ i e, E i = some e → E' i = some e
theorem Env.le_refl (E : Env) : E.le E := fun _ _ h => h
theorem Env.le_trans {E E' E'' : Env} (h : E.le E') (k : E'.le E'') : E.le E'' := fun i e x => k i e (h i e x)
def Env.upd (E : Env) (j : Nat) (e : EI) : Env := fun i => if i = j then some e else E i
theorem Env.le_upd {E : Env} {j : Nat} {e : EI} (h : E j = none) : E.le (E.upd j e) := fun i x hi => by
  unfold Env.upd
  by_cases hij : i = j
  · subst hij; rw [h] at hi; cases hi
  · simp [hij, hi]

def capOf (e : EI) (c : Nat) : Nat := if c < HALF then c else e.cap - (INF - c)

inductive VR (E : Env) : Value → Value → Prop
  | bool (b : Bool) : VR E (.bool b) (.bool b)
  | int (k : IntKind) (n : Int) : VR E (.int k n) (.int k n)
  | str (s : ByteArray) : VR E (.string s) (.string s)
  | nilP : VR E (.pointer none) (.pointer none)
  | nilS : VR E (.slice none 0 0) (.slice none 0 0)
  | nilM : VR E (.map none) (.map none)
  | nilF : VR E .nilFunc .nilFunc
  | nilI : VR E .nilIface .nilIface
  | ptr {i o : Nat} {e : EI} (h : E i = some e) : VR E (.pointer (some ⟨i, o, none⟩)) (.pointer (some ⟨e.blk, e.off + o, none⟩))
  | sl {i o n c : Nat} {e : EI} {a' : Addr} (h : E i = some e) (hn : n ≤ capOf e c) (ha : a' = ⟨e.blk, e.off + o, none⟩ ∨ capOf e c = 0) :
      VR E (.slice (some ⟨i, o, none⟩) n c) (.slice (some a') n (capOf e c))
  | map {i : Nat} {e : EI} (h : E i = some e) : VR E (.map (some i)) (.map (some e.blk))
  | fn {g : FuncId} {f f' c c' : Array Value} (hf : f.toList.length = f'.toList.length) (h1 : ∀ (k : Nat) x y, f.toList[k]? = some x → f'.toList[k]? = some y → VR E x y)
      (hc : c.toList.length = c'.toList.length) (h2 : ∀ (k : Nat) x y, c.toList[k]? = some x → c'.toList[k]? = some y → VR E x y) : VR E (.func (.func g) f c) (.func (.func g) f' c')
  | agg {f f' : Array Value} (hf : f.toList.length = f'.toList.length) (h1 : ∀ (k : Nat) x y, f.toList[k]? = some x → f'.toList[k]? = some y → VR E x y) : VR E (.agg f) (.agg f')
  | tup {f f' : Array Value} (hf : f.toList.length = f'.toList.length) (h1 : ∀ (k : Nat) x y, f.toList[k]? = some x → f'.toList[k]? = some y → VR E x y) : VR E (.tuple f) (.tuple f')

def LR (E : Env) (xs ys : List Value) : Prop := xs.length = ys.length ∧ ∀ (k : Nat) x y, xs[k]? = some x → ys[k]? = some y → VR E x y

theorem VR.mono {E E' : Env} (h : E.le E') {v v' : Value} (hv : VR E v v') : VR E' v v' := by
  induction hv with
  | bool b => exact .bool b
  | int k n => exact .int k n
  | str s => exact .str s
  | nilP => exact .nilP
  | nilS => exact .nilS
  | nilM => exact .nilM
  | nilF => exact .nilF
  | nilI => exact .nilI
  | ptr hi => exact .ptr (h _ _ hi)
  | sl hi hn ha => exact .sl (h _ _ hi) hn ha
  | map hi => exact .map (h _ _ hi)
  | fn hf _ hc _ i1 i2 => exact .fn hf i1 hc i2
  | agg hf _ i1 => exact .agg hf i1
  | tup hf _ i1 => exact .tup hf i1
theorem LR.mono {E E' : Env} (h : E.le E') {xs ys : List Value} (hv : LR E xs ys) : LR E' xs ys := ⟨hv.1, fun k x y hx hy => (hv.2 k x y hx hy).mono h⟩
theorem LR.nil (E : Env) : LR E [] [] := ⟨rfl, fun k x y hx => by simp at hx⟩
theorem LR.cons {E : Env} {x y : Value} {xs ys : List Value} (h : VR E x y) (hs : LR E xs ys) : LR E (x :: xs) (y :: ys) := by
  refine ⟨by simp [hs.1], fun k a b ha hb => ?_⟩
  cases k with
  | zero => simp at ha hb; subst ha; subst hb; exact h
  | succ k => simp at ha hb; exact hs.2 k a b ha hb
theorem LR.cons_inv {E : Env} {x : Value} {xs ys : List Value} (h : LR E (x :: xs) ys) : ∃ y ys', ys = y :: ys' ∧ VR E x y ∧ LR E xs ys' := by
  cases ys with
  | nil => have := h.1; simp at this
  | cons y ys =>
    refine ⟨y, ys, rfl, h.2 0 x y (by simp) (by simp), by have := h.1; simpa using this, fun k a b ha hb => h.2 (k + 1) a b (by simpa using ha) (by simpa using hb)⟩
theorem LR.nil_inv {E : Env} {ys : List Value} (h : LR E [] ys) : ys = [] := by
  cases ys with
  | nil => rfl
  | cons y ys => have := h.1; simp at this
theorem LR.append {E : Env} : ∀ {xs ys us vs : List Value}, LR E xs ys → LR E us vs → LR E (xs ++ us) (ys ++ vs)
  | [], ys, _, _, h, k => by rw [h.nil_inv]; exact k
  | x :: xs, ys, _, _, h, k => by
    obtain ⟨y, ys', rfl, h1, h2⟩ := h.cons_inv
    exact LR.cons h1 (LR.append h2 k)
theorem LR.get {E : Env} {xs ys : List Value} (h : LR E xs ys) {k : Nat} {x : Value} (hx : xs[k]? = some x) : ∃ y, ys[k]? = some y ∧ VR E x y := by
  have hk : k < ys.length := by rw [← h.1]; exact (List.getElem?_eq_some_iff.1 hx).1
  exact ⟨ys[k], by simp [hk], h.2 k x _ hx (by simp [hk])⟩
theorem LR.take {E : Env} {xs ys : List Value} (h : LR E xs ys) (n : Nat) : LR E (xs.take n) (ys.take n) := by
  refine ⟨by simp [h.1], fun k x y hx hy => ?_⟩
  rw [List.getElem?_take] at hx hy
  by_cases hk : k < n
  · simp only [hk, if_true] at hx hy; exact h.2 k x y hx hy
  · simp [hk] at hx
theorem LR.drop {E : Env} {xs ys : List Value} (h : LR E xs ys) (n : Nat) : LR E (xs.drop n) (ys.drop n) := by
  refine ⟨by simp [h.1], fun k x y hx hy => ?_⟩
  rw [List.getElem?_drop] at hx hy
  exact h.2 _ x y hx hy
theorem VR.agg_of {E : Env} {f f' : Array Value} (h : LR E f.toList f'.toList) : VR E (.agg f) (.agg f') := .agg h.1 h.2
theorem VR.tup_of {E : Env} {f f' : Array Value} (h : LR E f.toList f'.toList) : VR E (.tuple f) (.tuple f') := .tup h.1 h.2

theorem VR.cleanS {E : Env} {v : Value} (h : cleanS v = true) : VR E v v := by
  cases v with
  | bool b => exact .bool b
  | int k n => exact .int k n
  | string s => exact .str s
  | pointer a => cases a with
    | none => exact .nilP
    | some a => simp [Sx.cleanS] at h
  | slice a n c => cases a with
    | none =>
      simp only [Sx.cleanS, Bool.and_eq_true] at h
      rw [Nat.eq_of_beq_eq_true h.1, Nat.eq_of_beq_eq_true h.2]; exact .nilS
    | some a => simp [Sx.cleanS] at h
  | map a => cases a with
    | none => exact .nilM
    | some a => simp [Sx.cleanS] at h
  | nilFunc => exact .nilF
  | nilIface => exact .nilI
  | func g f c =>
    cases g <;> simp only [Sx.cleanS, Bool.false_eq_true, Bool.and_eq_true] at h
    have h1 := Nat.eq_of_beq_eq_true h.1
    have h2 := Nat.eq_of_beq_eq_true h.2
    have e1 : f = #[] := Array.eq_empty_of_size_eq_zero h1
    have e2 : c = #[] := Array.eq_empty_of_size_eq_zero h2
    subst e1; subst e2
    exact .fn rfl (fun k x y hx => by simp at hx) rfl (fun k x y hx => by simp at hx)
  | _ => simp [Sx.cleanS] at h
theorem LR.cleanL {E : Env} {xs : List Value} (h : xs.all cleanS = true) : LR E xs xs := by
  refine ⟨rfl, fun k x y hx hy => ?_⟩
  rw [hx] at hy; cases hy
  exact VR.cleanS (List.all_eq_true.1 h x (List.mem_of_getElem? hx))
theorem VR.clean {E : Env} {v : Value} (h : cleanB v = true) : VR E v v := by
  cases v with
  | agg cs => exact .agg_of (LR.cleanL h)
  | tuple cs => exact .tup_of (LR.cleanL h)
  | _ => exact VR.cleanS h
theorem VR.plainS {E : Env} {v v' : Value} (h : VR E v v') (hp : plainS v = true) : v' = v := by
  cases h <;> first | rfl | simp [Sx.plainS] at hp
theorem VR.plain {E : Env} {v v' : Value} (h : VR E v v') (hp : plainB v = true) : v' = v := by
  cases h with
  | agg hf h1 =>
    rename_i f f'
    have : f'.toList = f.toList := by
      apply List.ext_getElem? ; intro k
      cases hx : f.toList[k]? with
      | none =>
        have : f.toList.length ≤ k := List.getElem?_eq_none_iff.1 hx
        exact List.getElem?_eq_none (by omega)
      | some x =>
        have hk : k < f'.toList.length := by rw [← hf]; exact (List.getElem?_eq_some_iff.1 hx).1
        have hy : f'.toList[k]? = some f'.toList[k] := by simp
        rw [hy]
        exact congrArg some (VR.plainS (h1 k x _ hx hy) (List.all_eq_true.1 hp x (List.mem_of_getElem? hx)))
    exact congrArg Value.agg (Array.toList_inj.1 this)
  | _ => first | rfl | simp [Sx.plainB, Sx.plainS] at hp
theorem VR.oneB {E : Env} {v v' : Value} (h : VR E v v') : Sx.oneB v' = Sx.oneB v := by cases h <;> rfl
theorem oneB_iff (v : Value) : oneB v = v.oneCell' := by cases v <;> rfl
theorem VR.cells {E : Env} {v v' : Value} (h : VR E v v') : LR E v.cells.toList v'.cells.toList := by
  cases h with
  | agg hf h1 => exact ⟨hf, h1⟩
  | fn hf h1 hc h2 => exact LR.cons (.fn hf h1 hc h2) (LR.nil E)
  | tup hf h1 => exact LR.cons (.tup hf h1) (LR.nil E)
  | sl h1 h2 h3 => exact LR.cons (.sl h1 h2 h3) (LR.nil E)
  | ptr h => exact LR.cons (.ptr h) (LR.nil E)
  | map h => exact LR.cons (.map h) (LR.nil E)
  | bool b => exact LR.cons (.bool b) (LR.nil E)
  | int k n => exact LR.cons (.int k n) (LR.nil E)
  | str s => exact LR.cons (.str s) (LR.nil E)
  | nilP => exact LR.cons .nilP (LR.nil E)
  | nilS => exact LR.cons .nilS (LR.nil E)
  | nilM => exact LR.cons .nilM (LR.nil E)
  | nilF => exact LR.cons .nilF (LR.nil E)
  | nilI => exact LR.cons .nilI (LR.nil E)
end Go.Sx

import Derived.OrdersIn
import Derived.RangeFuncIn
import Derived.KernelRfl
namespace Go.Sx

/-! ## Tries -/
inductive Tr (α : Type) where
  | nil
  | node (v : Option α) (l r : Tr α)

def Tr.get {α : Type} : Tr α → Nat → Option α
  | .nil, _ => none
  | .node v l r, k => match k with
    | 0 => v
    | j + 1 => bif Nat.beq (j % 2) 0 then l.get (j / 2) else r.get (j / 2)

def Tr.setF {α : Type} (v : α) : Nat → Tr α → Nat → Tr α
  | 0, t, _ => t
  | f + 1, .nil, k => match k with
    | 0 => .node (some v) .nil .nil
    | j + 1 => bif Nat.beq (j % 2) 0 then .node none (Tr.setF v f .nil (j / 2)) .nil else .node none .nil (Tr.setF v f .nil (j / 2))
  | f + 1, .node u l r, k => match k with
    | 0 => .node (some v) l r
    | j + 1 => bif Nat.beq (j % 2) 0 then .node u (Tr.setF v f l (j / 2)) r else .node u l (Tr.setF v f r (j / 2))

def Tr.set {α : Type} (t : Tr α) (k : Nat) (v : α) : Tr α := Tr.setF v (k + 1) t k

/-! ## Rows of cells -/
inductive Cells where
  | lst (l : List Value)
  | tr (t : Tr Value) (n : Nat)

def Cells.len : Cells → Nat
  | .lst l => l.length
  | .tr _ n => n
def Cells.get : Cells → Nat → Option Value
  | .lst l, k => l[k]?
  | .tr t n, k => bif Nat.blt k n then t.get k else none
def Cells.set : Cells → Nat → Value → Cells
  | .lst l, k, v => .lst (l.set k v)
  | .tr t n, k, v => .tr (t.set k v) n

/-! ## The abstract heap -/
inductive AObj where
  | row (T : TypeId) (cs : Cells) (ro : Bool)
  | map (es : List (Value × Value))
  | loop (st : LoopState) (pending : Option Code)
  | dead

abbrev Heap := Tr AObj

inductive Ev where
  | cell (i k : Nat) (w : Bool)
  | info (i : Nat)
  | row (i : Nat) (w : Bool)

inductive Lg where
  | nil
  | one (e : Ev)
  | app (a b : Lg)

def Ev.clash : Ev → Ev → Bool
  | .cell i k w, .cell j m u => Nat.beq i j && Nat.beq k m && (w || u)
  | .cell i _ w, .row j u => Nat.beq i j && (w || u)
  | .row i w, .cell j _ u => Nat.beq i j && (w || u)
  | .row i w, .row j u => Nat.beq i j && (w || u)
  | .info i, .row j u => Nat.beq i j && u
  | .row i w, .info j => Nat.beq i j && w
  | .cell .., .info _ => false
  | .info _, .cell .. => false
  | .info _, .info _ => false

def Lg.clash1 (e : Ev) : Lg → Bool
  | .nil => false
  | .one f => e.clash f
  | .app a b => a.clash1 e || b.clash1 e
def Lg.clash : Lg → Lg → Bool
  | .nil, _ => false
  | .one e, m => m.clash1 e
  | .app a b, m => a.clash m || b.clash m

/-! ## Computations -/
inductive R (α : Type) where
  | bad (why : Nat)
  | ok (a : α) (c : Nat) (h : Heap) (l : Lg)

def M (α : Type) : Type := Nat → Heap → R α

def M.pure {α : Type} (a : α) : M α := fun c h => .ok a c h .nil
def M.bad {α : Type} (why : Nat) : M α := fun _ _ => .bad why
def M.bind {α β : Type} (m : M α) (f : α → M β) : M β := fun c h =>
  match m c h with
  | .bad n => .bad n
  | .ok a c1 h1 l1 => match f a c1 h1 with
    | .bad n => .bad n
    | .ok b c2 h2 l2 => .ok b c2 h2 (.app l1 l2)
instance : Monad M where
  pure := M.pure
  bind := M.bind
end Go.Sx

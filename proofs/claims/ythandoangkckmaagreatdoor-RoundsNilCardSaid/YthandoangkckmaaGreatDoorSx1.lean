import Derived.OrdersIn
import Derived.RangeFuncIn
import Derived.KernelRfl
namespace Go.Sx

/-! ## Tries -/
/-- A way through a trie. -/
inductive Pa where
  | e
  | a (p : Pa)
  | b (p : Pa)
  | c (p : Pa)
  | d (p : Pa)
/-- A number, reckoned out. -/
noncomputable def frc {α : Type} (k : Nat) (K : Nat → α) : α := Nat.rec (motive := fun _ => α) (K 0) (fun n _ => K n) (Nat.add k 1)
noncomputable def paF (f : Nat) : Nat → Pa :=
  Nat.rec (motive := fun _ => Nat → Pa) (fun _ => .e)
    (fun _ ih k => Nat.rec (motive := fun _ => Pa) .e (fun j _ =>
      Bool.rec (motive := fun _ => Pa) (Bool.rec (motive := fun _ => Pa) (Bool.rec (motive := fun _ => Pa) (.d (ih (Nat.div j 4))) (.c (ih (Nat.div j 4))) (Nat.beq (Nat.mod j 4) 2)) (.b (ih (Nat.div j 4))) (Nat.beq (Nat.mod j 4) 1)) (.a (ih (Nat.div j 4))) (Nat.beq (Nat.mod j 4) 0)) k) f
noncomputable def pa (k : Nat) : Pa := paF (k + 1) k
inductive Tr (α : Type) where
  | nil
  | node (v : Option α) (a b c d : Tr α)

noncomputable def Tr.getP {α : Type} (t : Tr α) : Pa → Option α :=
  Tr.rec (motive := fun _ => Pa → Option α) (fun _ => none)
    (fun v _ _ _ _ ga gb gc gd p => Pa.rec (motive := fun _ => Option α) v (fun p _ => ga p) (fun p _ => gb p) (fun p _ => gc p) (fun p _ => gd p) p) t
noncomputable def Tr.mkP {α : Type} (v : α) (p : Pa) : Tr α :=
  Pa.rec (motive := fun _ => Tr α) (.node (some v) .nil .nil .nil .nil) (fun _ ih => .node none ih .nil .nil .nil) (fun _ ih => .node none .nil ih .nil .nil) (fun _ ih => .node none .nil .nil ih .nil) (fun _ ih => .node none .nil .nil .nil ih) p
noncomputable def Tr.setP {α : Type} (t : Tr α) (p : Pa) (v : α) : Tr α :=
  Tr.rec (motive := fun _ => Pa → Tr α) (fun p => Tr.mkP v p)
    (fun u a b c d sa sb sc sd p => Pa.rec (motive := fun _ => Tr α) (.node (some v) a b c d) (fun p _ => .node u (sa p) b c d) (fun p _ => .node u a (sb p) c d) (fun p _ => .node u a b (sc p) d) (fun p _ => .node u a b c (sd p)) p) t p
noncomputable def Tr.get {α : Type} (t : Tr α) (k : Nat) : Option α := frc k fun k => t.getP (pa k)
noncomputable def Tr.set {α : Type} (t : Tr α) (k : Nat) (v : α) : Tr α := frc k fun k => t.setP (pa k) v

/-! ## Lists -/
noncomputable def nthL {α : Type} (l : List α) : Nat → Option α :=
  List.rec (motive := fun _ => Nat → Option α) (fun _ => none) (fun x _ ih k => Nat.rec (motive := fun _ => Option α) (some x) (fun j _ => ih j) k) l
noncomputable def setL {α : Type} (v : α) (l : List α) : Nat → List α :=
  List.rec (motive := fun _ => Nat → List α) (fun _ => []) (fun x xs ih k => Nat.rec (motive := fun _ => List α) (v :: xs) (fun j _ => x :: ih j) k) l
noncomputable def takL {α : Type} (l : List α) : Nat → List α :=
  List.rec (motive := fun _ => Nat → List α) (fun _ => []) (fun x _ ih k => Nat.rec (motive := fun _ => List α) [] (fun j _ => x :: ih j) k) l
noncomputable def droL {α : Type} (l : List α) : Nat → List α :=
  List.rec (motive := fun _ => Nat → List α) (fun _ => []) (fun x xs ih k => Nat.rec (motive := fun _ => List α) (x :: xs) (fun j _ => ih j) k) l
noncomputable def lenL {α : Type} (l : List α) : Nat := List.rec (motive := fun _ => Nat) 0 (fun _ _ n => Nat.succ n) l
noncomputable def appL {α : Type} (l r : List α) : List α := List.rec (motive := fun _ => List α) r (fun x _ ih => x :: ih) l

/-! ## Rows of cells -/
inductive Cells where
  | lst (l : List Value)
  | blk (t : Tr (List Value)) (n : Nat)

noncomputable def Cells.len : Cells → Nat
  | .lst l => lenL l
  | .blk _ n => n
noncomputable def padL : Nat → List Value → List Value
  | 0, _ => []
  | m + 1, [] => undef :: padL m []
  | m + 1, x :: xs => x :: padL m xs
noncomputable def chunk (t : Tr (List Value)) (k : Nat) : List Value := match t.get (Nat.div k 64) with
  | some l => l
  | none => []
noncomputable def Cells.get : Cells → Nat → Option Value
  | .lst l, k => nthL l k
  | .blk t n, k => bif Nat.blt k n then (match nthL (chunk t k) (Nat.mod k 64) with
    | some v => some v
    | none => some undef) else none
noncomputable def Cells.set : Cells → Nat → Value → Cells
  | .lst l, k, v => .lst (setL v l k)
  | .blk t n, k, v => (match nthL (chunk t k) (Nat.mod k 64) with
    | some _ => .blk (t.set (Nat.div k 64) (setL v (chunk t k) (Nat.mod k 64))) n
    | none => .blk (t.set (Nat.div k 64) (setL v (padL 64 (chunk t k)) (Nat.mod k 64))) n)
noncomputable def mkBlk : Nat → Nat → List Value → Tr (List Value) → Tr (List Value)
  | 0, _, _, t => t
  | f + 1, i, l, t => match l with
    | [] => t
    | _ :: _ => mkBlk f (i + 1) (droL l 64) (t.set i (takL l 64))
noncomputable def mkCells (l : List Value) : Cells := bif Nat.ble (lenL l) 64 then .lst l else .blk (mkBlk (lenL l) 0 l .nil) (lenL l)
noncomputable def colBlk (t : Tr (List Value)) : Nat → Nat → Option (List Value)
  | _, 0 => some []
  | i, m + 1 => match t.get i, colBlk t (i + 1) m with
    | some l, some r => bif Nat.beq (lenL l) 64 then some (appL l r) else none
    | _, _ => none
/-- Cells from one on, at once; none: one by one. -/
noncomputable def Cells.ext : Cells → Nat → Nat → Option (List Value)
  | .lst l, o, n => bif Nat.ble (Nat.add o n) (lenL l) then some (takL (droL l o) n) else none
  | .blk t m, o, n => bif Nat.beq (Nat.mod o 64) 0 && Nat.beq (Nat.mod n 64) 0 && Nat.ble (Nat.add o n) m then colBlk t (Nat.div o 64) (Nat.div n 64) else none
noncomputable def Cells.put : Cells → Nat → List Value → Option Cells
  | .lst l, o, vs => bif Nat.ble (Nat.add o (lenL vs)) (lenL l) then some (.lst (appL (takL l o) (appL vs (droL l (Nat.add o (lenL vs)))))) else none
  | .blk t m, o, vs => bif Nat.beq (Nat.mod o 64) 0 && Nat.beq (lenL vs) 64 && Nat.ble (Nat.add o 64) m then (match t.get (Nat.div o 64) with
    | some l => bif Nat.beq (lenL l) 64 then some (.blk (t.set (Nat.div o 64) vs) m) else none
    | none => none) else none

noncomputable def blkPush : Tr (List Value) → Nat → List Value → Cells
  | t, n, [] => .blk t n
  | t, n, v :: vs => blkPush (t.set (Nat.div n 64) (appL (padL (Nat.mod n 64) (chunk t n)) [v])) (n + 1) vs
noncomputable def Cells.app : Cells → List Value → Cells
  | .lst l, vs => mkCells (appL l vs)
  | .blk t n, vs => blkPush t n vs

/-! ## Frames -/
/-- What is deferred: the rounds' calls of a loop over a function; a call of a function. -/
inductive Df where
  | mark (i : Nat)
  | call (g : FuncId) (args cap : List Value)
structure Fr where
  t : Tr Value
  n : Nat
  ro : Option Nat
  ds : List Df

/-! ## The abstract heap -/
inductive AObj where
  | row (T : TypeId) (cs : Cells) (ro : Bool)
  | map (es : List (Value × Value)) (bs : List Nat) (clk : Nat)
  | iter (m : Option Nat) (since : Nat) (seen : List Nat) (last : Nat)
  | loop (st : LoopState) (pending : Option Code) (f : Fr) (ps : List Tmp) (assign body : Code) (dfr : Nat)
  | defd
  | dead
  | orow (T : TypeId) (j : Nat) (ro : Bool)

abbrev Heap := Tr AObj

inductive Ev where
  | cell (i k : Nat) (w : Bool)
  | info (i : Nat)
  | row (i : Nat) (w : Bool)

inductive Lg where
  | nil
  | one (e : Ev)
  | app (a b : Lg)

def Ev.clash : Ev → Ev → Bool
  | .cell i k w, .cell j m u => Nat.beq i j && Nat.beq k m && (w || u)
  | .cell i _ w, .row j u => Nat.beq i j && (w || u)
  | .row i w, .cell j _ u => Nat.beq i j && (w || u)
  | .row i w, .row j u => Nat.beq i j && (w || u)
  | .info i, .row j u => Nat.beq i j && u
  | .row i w, .info j => Nat.beq i j && w
  | .cell .., .info _ => false
  | .info _, .cell .. => false
  | .info _, .info _ => false

def Lg.clash1 (e : Ev) : Lg → Bool
  | .nil => false
  | .one f => e.clash f
  | .app a b => a.clash1 e || b.clash1 e
def Lg.clashF : Lg → Lg → Bool
  | .nil, _ => false
  | .one e, m => m.clash1 e
  | .app a b, m => a.clashF m || b.clashF m
def Ev.isW : Ev → Bool
  | .cell _ _ w => w
  | .info _ => false
  | .row _ w => w
/-- What writes. -/
def Lg.ws : Lg → Lg
  | .nil => .nil
  | .one e => bif e.isW then .one e else .nil
  | .app a b => match a.ws, b.ws with
    | .nil, y => y
    | x, .nil => x
    | x, y => .app x y
def Lg.clash (a b : Lg) : Bool := a.ws.clashF b || a.clashF b.ws

/-! ## What is assumed of symbols -/
/-- A pure operation at operands of which some are symbols. -/
inductive AK where
  | bin (op : BinOp) (t : TypeId) (a b : Value)
  | un (op : UnOp) (a : Value)
  | conv (s d : TypeId) (a : Value)
  | ixa (t : TypeId) (x i : Value)
  | ix (t : TypeId) (x i : Value)
  | len (t : TypeId) (x : Value)
  | mm (mx : Bool) (a b : Value)
  | test (k : FloatKind) (i : Nat)
  | sli (t : TypeId) (x : Value) (lo hi mx : Option Value)
def beqS : Value → Value → Bool
  | .bool a, .bool b => a == b
  | .int k a, .int j b => decide (k = j) && decide (a = b)
  | .float k a, .float j b => decide (k = j) && Nat.beq a b
  | .complex k a p, .complex j b q => decide (k = j) && Nat.beq a b && Nat.beq p q
  | .string a, .string b => decide (a.data = b.data)
  | .pointer none, .pointer none => true
  | .pointer (some ⟨i, o, none⟩), .pointer (some ⟨j, p, none⟩) => Nat.beq i j && Nat.beq o p
  | .slice none n c, .slice none m d => Nat.beq n m && Nat.beq c d
  | .slice (some ⟨i, o, none⟩) n c, .slice (some ⟨j, p, none⟩) m d => Nat.beq i j && Nat.beq o p && Nat.beq n m && Nat.beq c d
  | .map none, .map none => true
  | .map (some i), .map (some j) => Nat.beq i j
  | .nilFunc, .nilFunc => true
  | .nilIface, .nilIface => true
  | .chan (some i), .chan (some j) => Nat.beq i j
  | _, _ => false
def beqL : List Value → List Value → Bool
  | [], [] => true
  | a :: as, b :: bs => beqS a b && beqL as bs
  | _, _ => false
def beqV : Value → Value → Bool
  | .agg a, .agg b => beqL a.toList b.toList
  | .tuple a, .tuple b => beqL a.toList b.toList
  | a, b => beqS a b
def beqO : Option Value → Option Value → Bool
  | none, none => true
  | some a, some b => beqV a b
  | _, _ => false
def beqK : AK → AK → Bool
  | .bin op t a b, .bin op' t' a' b' => decide (op = op') && Nat.beq t t' && beqV a a' && beqV b b'
  | .un op a, .un op' a' => decide (op = op') && beqV a a'
  | .conv s d a, .conv s' d' a' => Nat.beq s s' && Nat.beq d d' && beqV a a'
  | .ixa t x i, .ixa t' x' i' => Nat.beq t t' && beqV x x' && beqV i i'
  | .ix t x i, .ix t' x' i' => Nat.beq t t' && beqV x x' && beqV i i'
  | .len t x, .len t' x' => Nat.beq t t' && beqV x x'
  | .mm m a b, .mm m' a' b' => (m == m') && beqV a a' && beqV b b'
  | .test k i, .test k' i' => decide (k = k') && Nat.beq i i'
  | .sli t x l h m, .sli t' x' l' h' m' => Nat.beq t t' && beqV x x' && beqO l l' && beqO h h' && beqO m m'
  | _, _ => false
def beqVL : List Value → List Value → Bool
  | [], [] => true
  | a :: as, b :: bs => beqV a b && beqVL as bs
  | _, _ => false
def beqPL : List (Value × Value) → List (Value × Value) → Bool
  | [], [] => true
  | a :: as, b :: bs => beqV a.1 b.1 && beqV a.2 b.2 && beqPL as bs
  | _, _ => false
abbrev Ren := List (Nat × Nat)
abbrev HL := List (Nat × AObj)
structure Foot where
  a : Nat
  b : Nat
  ro : Bool
  o : AObj
  o' : AObj
structure Entry where
  args : List Value
  c : Nat
  hids : Ren := []
  foots : List Foot
  news : HL
  res : Value
structure LdE where
  t : TypeId
  k : Nat
  id : Nat
  j : Nat
  v : Value
class Asm where
  l : List (AK × Value)
  lds : List LdE := []
  apps : List (List TypeId × Entry) := []
def asmFind (k : AK) : List (AK × Value) → Option Value
  | [] => none
  | (k', v) :: l => bif beqK k k' then some v else asmFind k l
def asmGet [a : Asm] (k : AK) : Option Value := asmFind k a.l
/-- A bool, or a symbol of which it is assumed what it is. -/
def truth [Asm] : Value → Option Bool
  | .bool b => some b
  | .float k i => match asmGet (.test k i) with
    | some (.bool b) => some b
    | _ => none
  | _ => none

/-! ## Computations -/
inductive R (α : Type) where
  | bad (why : Nat)
  | ok (a : α) (c : Nat) (h : Heap) (l : Lg)

def M (α : Type) : Type := Nat → Heap → R α

def M.pure {α : Type} (a : α) : M α := fun c h => .ok a c h .nil
def M.bad {α : Type} (why : Nat) : M α := fun _ _ => .bad why
noncomputable def M.bind {α β : Type} (m : M α) (f : α → M β) : M β := fun c h =>
  R.rec (motive := fun _ => R β) (fun n => .bad n)
    (fun a c1 h1 l1 => R.rec (motive := fun _ => R β) (fun n => .bad n) (fun b c2 h2 l2 => .ok b c2 h2 (.app l1 l2)) (f a c1 h1)) (m c h)
end Go.Sx

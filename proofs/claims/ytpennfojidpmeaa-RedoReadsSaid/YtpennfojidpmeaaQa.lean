import Derived.OrdersIn
import Derived.RangeFuncIn
import Derived.KernelRfl
import Derived.Laws.Sem
import Derived.Laws.World
namespace Go.Sx
inductive Tr (α : Type) where
  | nil
  | node (v : Option α) (l r : Tr α)
noncomputable def Tr.get {α : Type} (t : Tr α) : Nat → Option α :=
  Tr.rec (motive := fun _ => Nat → Option α) (fun _ => none)
    (fun v _ _ gl gr k => Nat.rec (motive := fun _ => Option α) v (fun j _ => Bool.rec (motive := fun _ => Option α) (gr (Nat.div j 2)) (gl (Nat.div j 2)) (Nat.beq (Nat.mod j 2) 0)) k) t
noncomputable def Tr.path {α : Type} (v : α) (f : Nat) : Nat → Tr α :=
  Nat.rec (motive := fun _ => Nat → Tr α) (fun _ => .nil)
    (fun _ ih k => Nat.rec (motive := fun _ => Tr α) (.node (some v) .nil .nil) (fun j _ => Bool.rec (motive := fun _ => Tr α) (.node none .nil (ih (Nat.div j 2))) (.node none (ih (Nat.div j 2)) .nil) (Nat.beq (Nat.mod j 2) 0)) k) f
noncomputable def Tr.set {α : Type} (t : Tr α) (k : Nat) (v : α) : Tr α :=
  Tr.rec (motive := fun _ => Nat → Tr α) (fun k => Tr.path v (k + 1) k)
    (fun u l r sl sr k => Nat.rec (motive := fun _ => Tr α) (.node (some v) l r) (fun j _ => Bool.rec (motive := fun _ => Tr α) (.node u l (sr (Nat.div j 2))) (.node u (sl (Nat.div j 2)) r) (Nat.beq (Nat.mod j 2) 0)) k) t k
noncomputable def nthL {α : Type} (l : List α) : Nat → Option α :=
  List.rec (motive := fun _ => Nat → Option α) (fun _ => none) (fun x _ ih k => Nat.rec (motive := fun _ => Option α) (some x) (fun j _ => ih j) k) l
noncomputable def setL {α : Type} (v : α) (l : List α) : Nat → List α :=
  List.rec (motive := fun _ => Nat → List α) (fun _ => []) (fun x xs ih k => Nat.rec (motive := fun _ => List α) (v :: xs) (fun j _ => x :: ih j) k) l
noncomputable def takL {α : Type} (l : List α) : Nat → List α :=
  List.rec (motive := fun _ => Nat → List α) (fun _ => []) (fun x _ ih k => Nat.rec (motive := fun _ => List α) [] (fun j _ => x :: ih j) k) l
noncomputable def droL {α : Type} (l : List α) : Nat → List α :=
  List.rec (motive := fun _ => Nat → List α) (fun _ => []) (fun x xs ih k => Nat.rec (motive := fun _ => List α) (x :: xs) (fun j _ => ih j) k) l
noncomputable def lenL {α : Type} (l : List α) : Nat := List.rec (motive := fun _ => Nat) 0 (fun _ _ n => Nat.succ n) l
noncomputable def appL {α : Type} (l r : List α) : List α := List.rec (motive := fun _ => List α) r (fun x _ ih => x :: ih) l
inductive Cells where
  | lst (l : List Value)
  | blk (t : Tr (List Value)) (n : Nat)
noncomputable def Cells.len : Cells → Nat
  | .lst l => lenL l
  | .blk _ n => n
noncomputable def padL : Nat → List Value → List Value
  | 0, _ => []
  | m + 1, [] => undef :: padL m []
  | m + 1, x :: xs => x :: padL m xs
noncomputable def chunk (t : Tr (List Value)) (k : Nat) : List Value := match t.get (Nat.div k 64) with
  | some l => l
  | none => []
noncomputable def Cells.get : Cells → Nat → Option Value
  | .lst l, k => nthL l k
  | .blk t n, k => bif Nat.blt k n then (match nthL (chunk t k) (Nat.mod k 64) with
    | some v => some v
    | none => some undef) else none
noncomputable def Cells.set : Cells → Nat → Value → Cells
  | .lst l, k, v => .lst (setL v l k)
  | .blk t n, k, v => (match nthL (chunk t k) (Nat.mod k 64) with
    | some _ => .blk (t.set (Nat.div k 64) (setL v (chunk t k) (Nat.mod k 64))) n
    | none => .blk (t.set (Nat.div k 64) (setL v (padL 64 (chunk t k)) (Nat.mod k 64))) n)
noncomputable def mkBlk : Nat → Nat → List Value → Tr (List Value) → Tr (List Value)
  | 0, _, _, t => t
  | f + 1, i, l, t => match l with
    | [] => t
    | _ :: _ => mkBlk f (i + 1) (droL l 64) (t.set i (takL l 64))
noncomputable def mkCells (l : List Value) : Cells := bif Nat.ble (lenL l) 256 then .lst l else .blk (mkBlk (lenL l) 0 l .nil) (lenL l)
noncomputable def colBlk (t : Tr (List Value)) : Nat → Nat → Option (List Value)
  | _, 0 => some []
  | i, m + 1 => match t.get i, colBlk t (i + 1) m with
    | some l, some r => bif Nat.beq (lenL l) 64 then some (appL l r) else none
    | _, _ => none
noncomputable def Cells.ext : Cells → Nat → Nat → Option (List Value)
  | .lst l, o, n => bif Nat.ble (Nat.add o n) (lenL l) then some (takL (droL l o) n) else none
  | .blk t m, o, n => bif Nat.beq (Nat.mod o 64) 0 && Nat.beq (Nat.mod n 64) 0 && Nat.ble (Nat.add o n) m then colBlk t (Nat.div o 64) (Nat.div n 64) else none
noncomputable def Cells.put : Cells → Nat → List Value → Option Cells
  | .lst l, o, vs => bif Nat.ble (Nat.add o (lenL vs)) (lenL l) then some (.lst (appL (takL l o) (appL vs (droL l (Nat.add o (lenL vs)))))) else none
  | .blk t m, o, vs => bif Nat.beq (Nat.mod o 64) 0 && Nat.beq (lenL vs) 64 && Nat.ble (Nat.add o 64) m then (match t.get (Nat.div o 64) with
    | some l => bif Nat.beq (lenL l) 64 then some (.blk (t.set (Nat.div o 64) vs) m) else none
    | none => none) else none
noncomputable def blkPush : Tr (List Value) → Nat → List Value → Cells
  | t, n, [] => .blk t n
  | t, n, v :: vs => blkPush (t.set (Nat.div n 64) (appL (padL (Nat.mod n 64) (chunk t n)) [v])) (n + 1) vs
noncomputable def Cells.app : Cells → List Value → Cells
  | .lst l, vs => mkCells (appL l vs)
  | .blk t n, vs => blkPush t n vs
structure Fr where
  t : Tr Value
  n : Nat
  ro : Option Nat
  ds : List Nat
inductive AObj where
  | row (T : TypeId) (cs : Cells) (ro : Bool)
  | map (es : List (Value × Value))
  | loop (st : LoopState) (pending : Option Code) (f : Fr) (ps : List Tmp) (assign body : Code) (dfr : Nat)
  | defd
  | dead
  | orow (T : TypeId) (j : Nat) (ro : Bool)
  | mrow (T : TypeId) (j : Nat) (ro : Bool)
abbrev Heap := Tr AObj
inductive Ev where
  | cell (i k : Nat) (w : Bool)
  | info (i : Nat)
  | row (i : Nat) (w : Bool)
inductive Lg where
  | nil
  | one (e : Ev)
  | app (a b : Lg)
def Ev.clash : Ev → Ev → Bool
  | .cell i k w, .cell j m u => Nat.beq i j && Nat.beq k m && (w || u)
  | .cell i _ w, .row j u => Nat.beq i j && (w || u)
  | .row i w, .cell j _ u => Nat.beq i j && (w || u)
  | .row i w, .row j u => Nat.beq i j && (w || u)
  | .info i, .row j u => Nat.beq i j && u
  | .row i w, .info j => Nat.beq i j && w
  | .cell .., .info _ => false
  | .info _, .cell .. => false
  | .info _, .info _ => false
def Lg.clash1 (e : Ev) : Lg → Bool
  | .nil => false
  | .one f => e.clash f
  | .app a b => a.clash1 e || b.clash1 e
def Lg.clashF : Lg → Lg → Bool
  | .nil, _ => false
  | .one e, m => m.clash1 e
  | .app a b, m => a.clashF m || b.clashF m
def Ev.isW : Ev → Bool
  | .cell _ _ w => w
  | .info _ => false
  | .row _ w => w
def Lg.ws : Lg → Lg
  | .nil => .nil
  | .one e => bif e.isW then .one e else .nil
  | .app a b => match a.ws, b.ws with
    | .nil, y => y
    | x, .nil => x
    | x, y => .app x y
def Lg.clash (a b : Lg) : Bool := a.ws.clashF b || a.clashF b.ws
inductive AK where
  | bin (op : BinOp) (t : TypeId) (a b : Value)
  | un (op : UnOp) (a : Value)
  | conv (s d : TypeId) (a : Value)
  | ixa (t : TypeId) (x i : Value)
  | ix (t : TypeId) (x i : Value)
  | len (t : TypeId) (x : Value)
  | mm (mx : Bool) (a b : Value)
  | test (k : FloatKind) (i : Nat)
  | sli (t : TypeId) (x : Value) (lo hi mx : Option Value)
  | fa (t : TypeId) (x : Value) (i : Nat)
def beqS : Value → Value → Bool
  | .bool a, .bool b => a == b
  | .int k a, .int j b => decide (k = j) && decide (a = b)
  | .float k a, .float j b => decide (k = j) && Nat.beq a b
  | .complex k a p, .complex j b q => decide (k = j) && Nat.beq a b && Nat.beq p q
  | .string a, .string b => decide (a.data = b.data)
  | .pointer none, .pointer none => true
  | .pointer (some ⟨i, o, none⟩), .pointer (some ⟨j, p, none⟩) => Nat.beq i j && Nat.beq o p
  | .slice none n c, .slice none m d => Nat.beq n m && Nat.beq c d
  | .slice (some ⟨i, o, none⟩) n c, .slice (some ⟨j, p, none⟩) m d => Nat.beq i j && Nat.beq o p && Nat.beq n m && Nat.beq c d
  | .map none, .map none => true
  | .map (some i), .map (some j) => Nat.beq i j
  | .nilFunc, .nilFunc => true
  | .nilIface, .nilIface => true
  | .chan (some i), .chan (some j) => Nat.beq i j
  | _, _ => false
def beqL : List Value → List Value → Bool
  | [], [] => true
  | a :: as, b :: bs => beqS a b && beqL as bs
  | _, _ => false
def beqV : Value → Value → Bool
  | .agg a, .agg b => beqL a.toList b.toList
  | .tuple a, .tuple b => beqL a.toList b.toList
  | a, b => beqS a b
def beqO : Option Value → Option Value → Bool
  | none, none => true
  | some a, some b => beqV a b
  | _, _ => false
def beqK : AK → AK → Bool
  | .bin op t a b, .bin op' t' a' b' => decide (op = op') && Nat.beq t t' && beqV a a' && beqV b b'
  | .un op a, .un op' a' => decide (op = op') && beqV a a'
  | .conv s d a, .conv s' d' a' => Nat.beq s s' && Nat.beq d d' && beqV a a'
  | .ixa t x i, .ixa t' x' i' => Nat.beq t t' && beqV x x' && beqV i i'
  | .fa t x i, .fa t' x' i' => Nat.beq t t' && beqV x x' && Nat.beq i i'
  | .ix t x i, .ix t' x' i' => Nat.beq t t' && beqV x x' && beqV i i'
  | .len t x, .len t' x' => Nat.beq t t' && beqV x x'
  | .mm m a b, .mm m' a' b' => (m == m') && beqV a a' && beqV b b'
  | .test k i, .test k' i' => decide (k = k') && Nat.beq i i'
  | .sli t x l h m, .sli t' x' l' h' m' => Nat.beq t t' && beqV x x' && beqO l l' && beqO h h' && beqO m m'
  | _, _ => false
def beqVL : List Value → List Value → Bool
  | [], [] => true
  | a :: as, b :: bs => beqV a b && beqVL as bs
  | _, _ => false
def beqPL : List (Value × Value) → List (Value × Value) → Bool
  | [], [] => true
  | a :: as, b :: bs => beqV a.1 b.1 && beqV a.2 b.2 && beqPL as bs
  | _, _ => false
abbrev Ren := List (Nat × Nat)
abbrev HL := List (Nat × AObj)
structure Foot where
  a : Nat
  b : Nat
  ro : Bool
  o : AObj
  o' : AObj
structure Entry where
  args : List Value
  c : Nat
  hids : Ren := []
  foots : List Foot
  news : HL
  res : Value
structure LdE where
  t : TypeId
  k : Nat
  id : Nat
  j : Nat
  v : Value
class Asm where
  l : List (AK × Value)
  lds : List LdE := []
  apps : List (List TypeId × Entry) := []
def asmFind (k : AK) : List (AK × Value) → Option Value
  | [] => none
  | (k', v) :: l => bif beqK k k' then some v else asmFind k l
def asmGet [a : Asm] (k : AK) : Option Value := asmFind k a.l
def truth [Asm] : Value → Option Bool
  | .bool b => some b
  | .float k i => match asmGet (.test k i) with
    | some (.bool b) => some b
    | _ => none
  | _ => none
inductive R (α : Type) where
  | bad (why : Nat)
  | ok (a : α) (c : Nat) (h : Heap) (l : Lg)
def M (α : Type) : Type := Nat → Heap → R α
def M.pure {α : Type} (a : α) : M α := fun c h => .ok a c h .nil
def M.bad {α : Type} (why : Nat) : M α := fun _ _ => .bad why
noncomputable def M.bind {α β : Type} (m : M α) (f : α → M β) : M β := fun c h =>
  R.rec (motive := fun _ => R β) (fun n => .bad n)
    (fun a c1 h1 l1 => R.rec (motive := fun _ => R β) (fun n => .bad n) (fun b c2 h2 l2 => .ok b c2 h2 (.app l1 l2)) (f a c1 h1)) (m c h)
end Go.Sx
namespace Go.Sx
noncomputable section
def rd (i k : Nat) : M Value := fun c h => match h.get i with
  | some (.row _ cs _) => (match cs.get k with
    | some v => .ok v c h (.one (.cell i k false))
    | none => .bad 101)
  | _ => .bad 102
def oneB : Value → Bool
  | .agg _ => false
  | .tuple _ => false
  | _ => true
def wr (i k : Nat) (v : Value) : M Unit := fun c h => match h.get i with
  | some (.row T cs false) => (match cs.get k with
    | some _ => bif oneB v then .ok () c (h.set i (.row T (cs.set k v) false)) (.app (.one (.info i)) (.one (.cell i k true))) else .bad 105
    | none => .bad 103)
  | _ => .bad 104
def info (i : Nat) : M (TypeId × Nat × Bool) := fun c h => match h.get i with
  | some (.row T cs ro) => .ok (T, cs.len, ro) c h (.one (.info i))
  | _ => .bad 106
def newA (o : AObj) : M Nat := fun c h => match h.get c with
  | none => .ok c (c + 1) (h.set c o) (.one (.row c true))
  | some _ => .bad 107
def killA (i : Nat) : M Unit := fun c h => match h.get i with
  | some (.row _ _ false) => .ok () c (h.set i .dead) (.one (.row i true))
  | _ => .bad 108
def growA (i : Nat) (T : TypeId) (new : List Value) : M Nat := fun c h => match h.get i with
  | some (.row T' cs false) => (match h.get c with
    | none => bif Nat.beq T' T then .ok c (c + 1) ((h.set i .dead).set c (.row T (cs.app new) false)) (.app (.one (.row i true)) (.one (.row c true))) else .bad 114
    | some _ => .bad 115)
  | _ => .bad 116
def mapGet (i : Nat) : M (List (Value × Value)) := fun c h => match h.get i with
  | some (.map es) => .ok es c h (.one (.info i))
  | _ => .bad 109
def mapSet (i : Nat) (es : List (Value × Value)) : M Unit := fun c h => match h.get i with
  | some (.map _) => .ok () c (h.set i (.map es)) (.one (.row i true))
  | _ => .bad 110
def optM {α : Type} (why : Nat) : Option α → M α
  | some a => M.pure a
  | none => M.bad why
def guardM (why : Nat) (b : Bool) : M Unit := bif b then M.pure () else M.bad why
def rdN (i o : Nat) : Nat → M (List Value)
  | 0 => M.pure []
  | n + 1 => M.bind (rd i o) fun v => M.bind (rdN i (o + 1) n) fun vs => M.pure (v :: vs)
def wrN (i o : Nat) : List Value → M Unit
  | [] => M.pure ()
  | v :: vs => M.bind (wr i o v) fun _ => wrN i (o + 1) vs
def lgR (i : Nat) : Nat → Nat → Lg
  | _, 0 => .nil
  | o, n + 1 => .app (.one (.cell i o false)) (.app (lgR i (o + 1) n) .nil)
def lgW (i : Nat) : Nat → Nat → Lg
  | _, 0 => .nil
  | o, n + 1 => .app (.app (.one (.info i)) (.one (.cell i o true))) (lgW i (o + 1) n)
def rdB (i o n : Nat) : M (List Value) := fun c h => match h.get i with
  | some (.row _ cs _) => (match cs.ext o n with
    | some vs => .ok vs c h (lgR i o n)
    | none => rdN i o n c h)
  | _ => rdN i o n c h
def wrB (i o : Nat) (vs : List Value) : M Unit := fun c h => match vs with
  | [] => .ok () c h .nil
  | _ :: _ => (match h.get i with
    | some (.row T cs false) => bif vs.all oneB then (match cs.put o vs with
      | some cs' => .ok () c (h.set i (.row T cs' false)) (lgW i o vs.length)
      | none => wrN i o vs c h) else wrN i o vs c h
    | _ => wrN i o vs c h)
structure LpA where
  st : LoopState
  pend : Option Code
  f : Fr
  ps : List Tmp
  assign : Code
  body : Code
  dfr : Nat
def lpGet (i : Nat) : M LpA := fun c h => match h.get i with
  | some (.loop st pe f ps a b d) => .ok ⟨st, pe, f, ps, a, b, d⟩ c h (.one (.info i))
  | _ => .bad 111
def lpSet (i : Nat) (st : LoopState) (pe : Option Code) : M Unit := fun c h => match h.get i with
  | some (.loop _ _ f ps a b d) => .ok () c (h.set i (.loop st pe f ps a b d)) (.one (.row i true))
  | _ => .bad 112
def takeA (i : Nat) : M Unit := fun c h => match h.get i with
  | some .defd => .ok () c (h.set i .dead) (.one (.row i true))
  | _ => .bad 113
def bigD : Nat := 1000000007
def takeL : List Nat → M Unit
  | [] => M.pure ()
  | i :: is => M.bind (guardM 114 (!(Nat.beq i bigD))) fun _ => M.bind (takeA i) fun _ => takeL is
def aggB (P : Program) (t : TypeId) : Option Bool := match P.underlying t with
  | some (.struct _) => some true
  | some (.array _ _) => some true
  | some _ => some false
  | none => none
def sizeB (P : Program) (t : TypeId) : Option Nat := match P.info? t with
  | some i => some i.size
  | none => none
def zeroB (P : Program) (t : TypeId) : Option Value := match P.info? t with
  | some i => i.zero
  | none => none
def sliceElem (P : Program) (t : TypeId) : Option TypeId := match P.underlying t with
  | some (.slice e) => some e
  | _ => none
def cleanS : Value → Bool
  | .bool _ => true
  | .int _ _ => true
  | .string _ => true
  | .pointer none => true
  | .slice none n c => Nat.beq n 0 && Nat.beq c 0
  | .map none => true
  | .nilFunc => true
  | .nilIface => true
  | .func (.func _) f c => Nat.beq f.size 0 && Nat.beq c.size 0
  | _ => false
def cleanB : Value → Bool
  | .agg cs => cs.toList.all cleanS
  | .tuple cs => cs.toList.all cleanS
  | v => cleanS v
def plainS : Value → Bool
  | .bool _ => true
  | .int _ _ => true
  | .string _ => true
  | _ => false
def plainB : Value → Bool
  | .agg cs => cs.toList.all plainS
  | v => plainS v
def INF : Nat := 4611686018427387904
def HALF : Nat := 2305843009213693952
def knownCap (c : Nat) : Bool := Nat.blt c HALF
def pureRun (P : Program) (m : Sem Value) : Option Value := match m.run P default with
  | .ok v _ => bif cleanB v then some v else none
  | .halt _ _ => none
def Fr.get (f : Fr) (k : Nat) : Option Value := f.t.get k
def Fr.put (f : Fr) (dst : Option Tmp) (v : Value) : Fr := match dst with
  | some d => (match f with
    | ⟨t, n, ro, ds⟩ => bif Nat.blt d n then ⟨t.set d v, n, ro, ds⟩ else ⟨t, n, ro, ds⟩)
  | none => f
def Fr.args (t : Tr Value) : Nat → List Value → Tr Value
  | _, [] => t
  | k, v :: vs => Fr.args (t.set k v) (k + 1) vs
def Fr.init (args : List Value) (n : Nat) : Fr := ⟨Fr.args .nil 0 args, n, none, []⟩
def Fr.puts : Fr → List Tmp → List Value → Fr
  | f, p :: ps, v :: vs => Fr.puts (f.put (some p) v) ps vs
  | f, _, _ => f
def Fr.eval (f : Fr) : Operand → M Value
  | .tmp t => optM 203 (f.get t)
  | .const v => bif cleanB v then M.pure v else M.bad 201
  | .global _ => M.bad 202
  | .func g => M.pure (.func (.func g) #[] #[])
def evalL (f : Fr) : List Operand → M (List Value)
  | [] => M.pure []
  | x :: xs => M.bind (f.eval x) fun v => M.bind (evalL f xs) fun vs => M.pure (v :: vs)
def loadA (P : Program) (t : TypeId) (a : Value) : M Value := match a with
  | .pointer (some ⟨i, o, none⟩) => M.bind (optM 301 (aggB P t)) fun b =>
      bif b then M.bind (optM 302 (sizeB P t)) fun n => M.bind (rdB i o n) fun vs => M.pure (.agg vs.toArray) else rd i o
  | _ => M.bad 303
def storeA (P : Program) (t : TypeId) (a v : Value) : M Unit := match a with
  | .pointer (some ⟨i, o, none⟩) => M.bind (optM 304 (sizeB P t)) fun n =>
      M.bind (guardM 305 (Nat.beq v.cells.size n)) fun _ => wrB i o v.cells.toList
  | _ => M.bad 306
def newRowA (T : TypeId) (cells : List Value) : M Value :=
  M.bind (guardM 307 (cells.all oneB)) fun _ =>
  M.bind (newA (.row T (mkCells cells) false)) fun i => M.pure (.pointer (some ⟨i, 0, none⟩))
def fillA (place : Nat → Option (Nat × Nat)) (cells : List Value) : List (Nat × Value) → Option (List Value)
  | [] => some cells
  | (i, v) :: rest => match place i with
    | none => none
    | some (off, size) =>
      if v.cells.size ≠ size || off + v.cells.size > cells.length then none
      else fillA place (cells.take off ++ v.cells.toList ++ cells.drop (off + v.cells.size)) rest
def placesL (P : Program) : List Field → Option (List (Nat × Nat))
  | [] => some []
  | f :: fs => match sizeB P f.type, placesL P fs with
    | some n, some ps => some ((f.offset, n) :: ps)
    | _, _ => none
def buildA (P : Program) (t : TypeId) (parts : List (Nat × Value)) : Option Value := match zeroB P t with
  | none => none
  | some z => bif cleanB z then (match P.underlying t with
    | some (.struct fs) => (match placesL P fs.toList with
      | some ps => (match fillA (fun i => ps[i]?) z.cells.toList parts with
        | some cs => some (.agg cs.toArray)
        | none => none)
      | none => none)
    | some (.array _ e) => (match sizeB P e with
      | some n => (match fillA (fun i => some (i * n, n)) z.cells.toList parts with
        | some cs => some (.agg cs.toArray)
        | none => none)
      | none => none)
    | _ => none) else none
def repL (z : List Value) : Nat → List Value
  | 0 => []
  | n + 1 => z ++ repL z n
def buildSliceA (P : Program) (t : TypeId) (len : Nat) (parts : List (Nat × Value)) : M Value :=
  M.bind (optM 310 (sliceElem P t)) fun e =>
  M.bind (optM 311 (sizeB P e)) fun n =>
  M.bind (guardM 312 (Nat.blt 0 n && Nat.ble (len * n) 16777216)) fun _ =>
  M.bind (optM 313 (zeroB P e)) fun z =>
  M.bind (guardM 314 (Nat.beq z.cells.size n && cleanB z)) fun _ =>
  M.bind (optM 315 (fillA (fun i => some (i * n, n)) (repL z.cells.toList len) parts)) fun cs =>
  M.bind (guardM 316 (cs.all oneB)) fun _ =>
  M.bind (newA (.row e (mkCells cs) false)) fun i => M.pure (.slice (some ⟨i, 0, none⟩) len len)
def fieldAddrA (P : Program) (s : TypeId) (x : Value) (f : Nat) : Option Value := match x with
  | .pointer (some ⟨i, o, none⟩) => (match P.underlying s with
    | some (.struct fs) => (match fs[f]? with
      | some fd => (match sizeB P fd.type with
        | some n => bif Nat.beq n 0 then none else some (.pointer (some (Addr.add ⟨i, o, none⟩ fd.offset)))
        | none => none)
      | none => none)
    | _ => none)
  | _ => none
def inB (i : Int) (len : Nat) : Bool := decide (0 ≤ i ∧ i < (len : Int))
def indexAddrA (P : Program) (t : TypeId) (x ix : Value) : Option Value := match ix with
  | .int _ j => (match P.underlying t, x with
    | some (.array len e), .pointer (some a) => (match sizeB P e with
      | some n => bif inB j len then some (.pointer (some (a.add (j.toNat * n)))) else none
      | none => none)
    | some (.slice e), .slice (some a) len _ => (match sizeB P e with
      | some n => bif inB j len then some (.pointer (some (a.add (j.toNat * n)))) else none
      | none => none)
    | _, _ => none)
  | _ => none
def partA (P : Program) (t : TypeId) (cs : Array Value) (off : Nat) : Option Value := match aggB P t, sizeB P t with
  | some true, some n => some (.agg (cs.extract off (off + n)))
  | some false, some _ => cs[off]?
  | _, _ => none
def indexA (P : Program) (t : TypeId) (x ix : Value) : Option Value := match ix with
  | .int _ j => (match P.underlying t, x with
    | some (.array len e), .agg cs => (match sizeB P e with
      | some n => bif inB j len then partA P e cs (j.toNat * n) else none
      | none => none)
    | some .string, .string s => bif inB j s.size then (match s[j.toNat]? with
      | some b => some (.int .u8 b.toNat)
      | none => none) else none
    | _, _ => none)
  | _ => none
def fieldA (P : Program) (t : TypeId) (x : Value) (f : Nat) : Option Value := match x with
  | .agg cs => (match P.underlying t with
    | some (.struct fs) => (match fs[f]? with
      | some fd => partA P fd.type cs fd.offset
      | none => none)
    | _ => none)
  | _ => none
def boundA (y : Nat) : Option Value → Nat → Option Nat
  | none, d => some d
  | some (.int _ i), _ => bif decide (0 ≤ i ∧ i ≤ (y : Int)) then some i.toNat else none
  | some _, _ => none
def sliceA (P : Program) (t : TypeId) (x : Value) (lo hi mx : Option Value) : Option Value := match P.underlying t, x with
  | some .string, .string s => (match mx, boundA s.size hi s.size with
    | none, some h => (match boundA h lo 0 with
      | some l => some (.string (s.extract l h))
      | none => none)
    | _, _ => none)
  | some (.slice e), .slice none _ c0 => bif mx.isSome && !hi.isSome then none else (match boundA 0 hi 0, boundA 0 lo 0, boundA 0 mx 0 with
    | some _, some _, some _ => (match sizeB P e with
      | some _ => bif Nat.ble c0 1 then some (.slice none 0 c0) else none
      | none => none)
    | _, _, _ => none)
  | some (.slice e), .slice (some a) len cap =>
    let cut := bif knownCap cap then cap else len
    (match sizeB P e, boundA cut mx cut with
    | some n, some m => (match boundA m hi len with
      | some h => (match boundA h lo 0 with
        | some l =>
          bif mx.isSome && !hi.isSome then none else
          bif mx.isSome || knownCap cap then
            (bif knownCap m then some (.slice (some (if m = l then a else a.add (l * n))) (h - l) (m - l)) else none)
          else (bif Nat.ble (HALF + l) cap && Nat.ble cap INF then some (.slice (some (a.add (l * n))) (h - l) (cap - l)) else none)
        | none => none)
      | none => none)
    | _, _ => none)
  | some (.array len e), .pointer (some a) => (match sizeB P e, boundA len mx len with
    | some n, some m => (match boundA m hi len with
      | some h => (match boundA h lo 0 with
        | some l => bif (mx.isSome && !hi.isSome) || !(knownCap m) then none else
          some (.slice (some (if m = l then a else a.add (l * n))) (h - l) (m - l))
        | none => none)
      | none => none)
    | _, _ => none)
  | _, _ => none
def srcCells (n size : Nat) : Value → M (List Value)
  | .slice (some ⟨i, o, none⟩) _ _ => rdB i o (n * size)
  | .slice none _ _ => M.pure []
  | .string s => bif Nat.beq size 1 then M.pure (((s.extract 0 n).data.toList).map fun b => .int .u8 b.toNat) else M.bad 321
  | _ => M.bad 320
def lenA : Value → Option Nat
  | .slice _ n _ => some n
  | .string s => some s.size
  | _ => none
def isIntT (P : Program) (t : TypeId) : Bool := match P.underlying t with
  | some (.int _) => true
  | _ => false
def bytesB (P : Program) (t : TypeId) : Option Nat := match P.info? t with
  | some i => some i.bytes
  | none => none
def appendA (P : Program) (ats : List TypeId) (args : List Value) : M Value := match ats, args with
  | [st, xt], [.slice base sLen sCap, x] =>
    M.bind (optM 330 (sliceElem P st)) fun e =>
    M.bind (optM 331 (sizeB P e)) fun size =>
    M.bind (optM 332 (bytesB P e)) fun bytes =>
    M.bind (optM 329 (zeroB P e)) fun z =>
    M.bind (guardM 333 (Nat.blt 0 size && !isIntT P xt && (P.underlying xt).isSome && Nat.beq z.cells.size size)) fun _ =>
    M.bind (optM 334 (lenA x)) fun n =>
    bif Nat.beq n 0 then M.pure (.slice base sLen sCap) else
    let need := sLen + n
    M.bind (guardM 335 (Nat.ble (need * bytes) 70368744177664 && Nat.blt need HALF)) fun _ =>
    M.bind (srcCells n size x) fun new =>
    M.bind (guardM 328 (new.all oneB)) fun _ =>
    (match base with
    | none => bif Nat.ble sCap 1 then (M.bind (newA (.row e (mkCells new) false)) fun j => M.pure (.slice (some ⟨j, 0, none⟩) need INF)) else M.bad 339
    | some ⟨i, o, none⟩ =>
      bif knownCap sCap then
        (bif Nat.ble need sCap then
          M.bind (wrB i (o + sLen * size) new) fun _ => M.pure (.slice (some ⟨i, o, none⟩) need sCap)
        else
          M.bind (rdB i o (sLen * size)) fun old =>
          M.bind (guardM 327 (old.all oneB)) fun _ =>
          M.bind (newA (.row e (mkCells (old ++ new)) false)) fun j => M.pure (.slice (some ⟨j, 0, none⟩) need INF))
      else
        M.bind (info i) fun (T, len, ro) =>
        M.bind (guardM 336 (Nat.beq T e && !ro && Nat.beq o ((INF - sCap) * size) && Nat.beq (o + sLen * size) len && Nat.ble sCap INF)) fun _ =>
        bif Nat.beq o 0 then M.bind (growA i e new) fun j => M.pure (.slice (some ⟨j, 0, none⟩) need INF) else
        M.bind (rdB i o (sLen * size)) fun old =>
        M.bind (guardM 326 (old.all oneB)) fun _ =>
        M.bind (killA i) fun _ =>
        M.bind (newA (.row e (mkCells (old ++ new)) false)) fun j => M.pure (.slice (some ⟨j, 0, none⟩) need INF)
    | some _ => M.bad 337)
  | _, _ => M.bad 338
def copyA (P : Program) (ats : List TypeId) (args : List Value) : M Value := match ats, args with
  | t :: _, [.slice base dLen _, x] =>
    M.bind (optM 371 (sliceElem P t)) fun e =>
    M.bind (optM 372 (sizeB P e)) fun size =>
    M.bind (optM 373 (lenA x)) fun sn =>
    let n := Nat.min sn dLen
    M.bind (srcCells n size x) fun cells =>
    (match base with
    | none => M.pure (goInt n)
    | some ⟨i, o, none⟩ => M.bind (wrB i o cells) fun _ => M.pure (goInt n)
    | some _ => M.bad 374)
  | _, _ => M.bad 375
def makeSliceA (P : Program) (t : TypeId) (lv cv : Value) : M Value := match lv, cv with
  | .int _ (.ofNat l), .int _ (.ofNat c) =>
    M.bind (optM 421 (sliceElem P t)) fun e =>
    M.bind (optM 422 (sizeB P e)) fun size =>
    M.bind (optM 423 (bytesB P e)) fun bytes =>
    M.bind (guardM 424 (Nat.ble l c && Nat.blt 0 c && Nat.blt 0 size && Nat.ble (c * bytes) 16777216 && Nat.ble (c * size) 16777216 && Nat.blt c HALF)) fun _ =>
    M.bind (optM 425 (zeroB P e)) fun z =>
    M.bind (guardM 426 (Nat.beq z.cells.size size && cleanB z)) fun _ =>
    M.bind (newRowA e (repL z.cells.toList c)) fun p => (match p with
    | .pointer a => M.pure (.slice a l c)
    | _ => M.bad 427)
  | _, _ => M.bad 428
def arrayAtA (P : Program) (t : TypeId) (x : Value) : Option Value := match P.underlying t, x with
  | some (.array n _), .slice (some a) len _ => bif Nat.blt 0 n && Nat.ble n len then some (.pointer (some a)) else none
  | _, _ => none
def minmaxA (mx : Bool) (args : List Value) : Option Value := match args with
  | [.int k x, .int _ y] => some (.int k (bif mx then (if y > x then y else x) else (if y < x then y else x)))
  | _ => none
def sameA : Value → Value → Option Bool
  | .int k a, .int j b => if k = j then some (a == b) else none
  | .string a, .string b => some (a == b)
  | .bool a, .bool b => some (a == b)
  | _, _ => none
def keyB (P : Program) (t : TypeId) (v : Value) : Bool := match P.underlying t, v with
  | some (.int _), .int _ _ => true
  | some .string, .string _ => true
  | some .bool, .bool _ => true
  | _, _ => false
def findA (k : Value) : List (Value × Value) → Option (Option Value)
  | [] => some none
  | (k', v) :: es => match sameA k k' with
    | some true => some (some v)
    | some false => findA k es
    | none => none
def putA (k v : Value) : List (Value × Value) → Option (List (Value × Value))
  | [] => some [(k, v)]
  | (k', u) :: es => match sameA k k' with
    | some true => some ((k, v) :: es)
    | some false => (match putA k v es with
      | some r => some ((k', u) :: r)
      | none => none)
    | none => none
def dropA (k : Value) : List (Value × Value) → Option (List (Value × Value))
  | [] => some []
  | (k', u) :: es => match sameA k k' with
    | some true => some es
    | some false => (match dropA k es with
      | some r => some ((k', u) :: r)
      | none => none)
    | none => none
def mapT (P : Program) (t : TypeId) : Option (TypeId × TypeId) := match P.underlying t with
  | some (.map k e) => some (k, e)
  | _ => none
def lookupA (P : Program) (t : TypeId) (x k : Value) (ok : Bool) : M Value :=
  M.bind (optM 340 (mapT P t)) fun (kt, et) =>
  M.bind (guardM 341 (keyB P kt k)) fun _ =>
  M.bind (optM 342 (zeroB P et)) fun z =>
  M.bind (guardM 343 (cleanB z)) fun _ =>
  M.bind (match x with
    | .map none => M.pure []
    | .map (some i) => mapGet i
    | _ => M.bad 344) fun es =>
  match findA k es with
  | some (some v) => M.pure (if ok then .tuple #[v, .bool true] else v)
  | some none => M.pure (if ok then .tuple #[z, .bool false] else z)
  | none => M.bad 339
def mapUpdateA (P : Program) (t : TypeId) (x k v : Value) : M Unit :=
  M.bind (optM 345 (mapT P t)) fun (kt, _) =>
  M.bind (guardM 346 (keyB P kt k)) fun _ => match x with
    | .map (some i) => M.bind (mapGet i) fun es => M.bind (optM 352 (putA k v es)) fun es' => mapSet i es'
    | _ => M.bad 347
def deleteA (P : Program) (t : TypeId) (x k : Value) : M Unit :=
  M.bind (optM 348 (mapT P t)) fun (kt, _) =>
  M.bind (guardM 349 (keyB P kt k)) fun _ => match x with
    | .map none => M.pure ()
    | .map (some i) => M.bind (mapGet i) fun es => M.bind (optM 353 (dropA k es)) fun es' => mapSet i es'
    | _ => M.bad 350
def lenBuiltin (P : Program) (t : TypeId) (x : Value) : M Value := match P.underlying t with
  | some .string => (match x with
    | .string s => M.pure (goInt s.size)
    | _ => M.bad 351)
  | some (.array n _) => M.pure (goInt n)
  | some (.slice _) => (match x with
    | .slice _ n _ => M.pure (goInt n)
    | _ => M.bad 354)
  | some (.map _ _) => (match x with
    | .map none => M.pure (goInt 0)
    | .map (some i) => M.bind (mapGet i) fun es => M.pure (goInt es.length)
    | _ => M.bad 355)
  | _ => M.bad 356
def nilEq (P : Program) (t : TypeId) (a b : Value) : Option Bool := match P.underlying t, a, b with
  | some (.pointer _), .pointer none, .pointer y => some y.isNone
  | some (.pointer _), .pointer (some _), .pointer none => some false
  | some (.slice _), .slice none _ 0, .slice none _ 0 => some true
  | some (.slice _), .slice none _ 0, .slice (some _) _ _ => some false
  | some (.slice _), .slice (some _) _ _, .slice none _ 0 => some false
  | some (.map _ _), .map none, .map y => some y.isNone
  | some (.map _ _), .map (some _), .map none => some false
  | some (.func _ _ _), .nilFunc, .nilFunc => some true
  | some (.func _ _ _), .nilFunc, .func _ _ _ => some false
  | some (.func _ _ _), .func _ _ _, .nilFunc => some false
  | _, _, _ => none
def isAggV : Value → Bool
  | .agg _ => true
  | _ => false
def symB : Value → Bool
  | .agg _ => true
  | .float _ _ => true
  | .complex _ _ _ => true
  | .chan _ => true
  | _ => false
def isCx : Value → Bool
  | .complex _ _ _ => true
  | .chan _ => true
  | _ => false
def orAsm [Asm] (k : AK) : Option Value → Option Value
  | some v => some v
  | none => asmGet k
def binA [Asm] (P : Program) (op : BinOp) (t : TypeId) (a b : Value) : M Value :=
  bif plainB a && plainB b then
    M.bind (guardM 365 (!isAggV a || !(P.eqGuardType P.depth t))) fun _ => optM 360 (pureRun P (binOp op t a b))
  else bif symB a || symB b then optM 364 (asmGet (.bin op t a b)) else (match op with
    | .eql => M.bind (optM 361 (nilEq P t a b)) fun r => M.pure (.bool r)
    | .neq => M.bind (optM 362 (nilEq P t a b)) fun r => M.pure (.bool (!r))
    | _ => M.bad 363)
structure Rec where
  exec : Code → Fr → M (Exit × Fr)
  call : FuncId → List Value → M Value
def jumpOf : Exit → Option (Option Code)
  | .normal => some none
  | .ret => some (some .ret)
  | .exit id => some (some (.exit id))
  | .goto l => some (some (.goto l))
  | _ => none
def yieldA (r : Rec) (l : Nat) (args : List Value) : M Value :=
  M.bind (lpGet l) fun x =>
  M.bind (guardM 376 (Nat.beq args.length x.ps.length)) fun _ =>
  M.bind (r.exec x.assign (Fr.puts ⟨x.f.t, x.f.n, some l, []⟩ x.ps args)) fun (e, f1) => (match e with
  | .normal =>
    M.bind (lpGet l) fun y => (match y.st with
    | .ready =>
      M.bind (lpSet l .busy y.pend) fun _ =>
      M.bind (r.exec x.body f1) fun (e2, _) => (match jumpOf e2 with
      | some none => M.bind (lpSet l .ready none) fun _ => M.pure (.bool true)
      | some j => M.bind (lpSet l .done j) fun _ => M.pure (.bool false)
      | none => M.bad 377)
    | _ => M.bad 378)
  | _ => M.bad 379)
def callV (r : Rec) (f : Value) (args : List Value) : M Value := match f with
  | .func (.func g) first captured => r.call g (first.toList ++ args ++ captured.toList)
  | .func (.yield l) first captured => bif Nat.beq first.size 0 && Nat.beq captured.size 0 then yieldA r l args else M.bad 369
  | _ => M.bad 370
def pairsL (f : Fr) : List (Nat × Operand) → M (List (Nat × Value))
  | [] => M.pure []
  | (i, x) :: xs => M.bind (f.eval x) fun v => M.bind (pairsL f xs) fun vs => M.pure ((i, v) :: vs)
def evalO (f : Fr) : Option Operand → M (Option Value)
  | none => M.pure none
  | some x => M.bind (f.eval x) fun v => M.pure (some v)
def cellsIs (cs : Cells) : Nat → List Value → Bool
  | _, [] => true
  | k, v :: l => (match cs.get k with
    | some u => beqV u v
    | none => false) && cellsIs cs (k + 1) l
def matchO : AObj → AObj → Bool
  | .row T (.lst l) ro, .row T' cs ro' => Nat.beq T T' && (ro == ro') && cellsIs cs 0 l
  | .orow T j ro, .orow T' j' ro' => Nat.beq T T' && Nat.beq j j' && (ro == ro')
  | .mrow T j ro, .mrow T' j' ro' => Nat.beq T T' && Nat.beq j j' && (ro == ro')
  | .map es, .map es' => beqPL es es'
  | _, _ => false
def live : AObj → Bool
  | .dead => false
  | _ => true
def swapA (a : Nat) (o o' : AObj) : M Unit := fun c h => match h.get a with
  | some x => bif matchO o x then .ok () c (h.set a o') (.one (.row a true)) else .bad 801
  | none => .bad 802
def seeA (a : Nat) (o : AObj) : M Unit := fun c h => match h.get a with
  | some x => bif matchO o x then .ok () c h (.one (.row a false)) else .bad 803
  | none => .bad 804
def notM : AObj → Bool
  | .mrow _ _ _ => false
  | _ => true
def liveA (a : Nat) : M Unit := fun c h => match h.get a with
  | some x => bif notM x then .ok () c h (.one (.row a false)) else .bad 807
  | none => .bad 806
def hidsM : Ren → M Unit
  | [] => M.pure ()
  | p :: l => M.bind (liveA p.1) fun _ => hidsM l
def footsM : List Foot → M Unit
  | [] => M.pure ()
  | f :: fs => M.bind (bif f.ro then seeA f.a f.o else swapA f.a f.o f.o') fun _ => footsM fs
def newsM : Nat → HL → M Unit
  | _, [] => M.pure ()
  | k, (_, o) :: l => M.bind (newA o) fun i => M.bind (guardM 811 (Nat.beq i k)) fun _ => newsM (k + 1) l
def runE (e : Entry) : M Value := M.bind (hidsM e.hids) fun _ => M.bind (footsM e.foots) fun _ => M.bind (newsM e.c e.news) fun _ => M.pure e.res
def findE (args : List Value) (c : Nat) : List Entry → Option Entry
  | [] => none
  | e :: es => bif Nat.beq e.c c && beqVL args e.args then some e else findE args c es
def orc (es : List Entry) : List Value → M Value := fun args c h => match findE args c es with
  | some e => runE e c h
  | none => .bad 810
def findApp (ats : List TypeId) (args : List Value) (c : Nat) : List (List TypeId × Entry) → Option Entry
  | [] => none
  | (ts, e) :: es => bif Nat.beq e.c c && beqVL args e.args && decide (ts = ats) then some e else findApp ats args c es
def appX [a : Asm] (ats : List TypeId) (args : List Value) : M Value := fun c h => match findApp ats args c a.apps with
  | some e => runE e c h
  | none => .bad 812
def findLd (t k : Nat) : List LdE → Option LdE
  | [] => none
  | e :: es => bif Nat.beq e.t t && Nat.beq e.k k then some e else findLd t k es
def loadX [a : Asm] (t k : Nat) : M Value := fun c h => match findLd t k a.lds with
  | some e => (match h.get e.id with
    | some (.orow _ j _) => bif Nat.beq j e.j then .ok e.v c h (.one (.row e.id false)) else .bad 813
    | some (.mrow _ j _) => bif Nat.beq j e.j then .ok e.v c h (.one (.row e.id false)) else .bad 813
    | _ => .bad 814)
  | none => appX [t, 1000000] [.chan (some k)] c h
def storeX [Asm] (P : Program) (t : TypeId) (a v : Value) : M Unit := match a with
  | .chan (some k) => M.bind (appX [t, 1000001] [.chan (some k), v]) fun _ => M.pure ()
  | a => storeA P t a v
def builtinA [Asm] (P : Program) (b : Builtin) (ats : Array TypeId) (args : List Value) : M Value := match b with
  | .append => bif args.any isCx then (bif ats.toList.any (Nat.ble 1000000) then M.bad 816 else appX ats.toList args) else appendA P ats.toList args
  | .len => (match args with
    | [x] => (match ats[0]? with
      | some t => bif isCx x then optM 387 (asmGet (.len t x)) else lenBuiltin P t x
      | none => M.bad 380)
    | _ => M.bad 383)
  | .delete => (match args with
    | [m, k] => (match ats[0]? with
      | some t => M.bind (deleteA P t m k) fun _ => M.pure (.tuple #[])
      | none => M.bad 381)
    | _ => M.bad 384)
  | .copy => bif args.any isCx then appX (ats.toList ++ [1000003]) args else copyA P ats.toList args
  | .min => (match args with
    | [a, b] => optM 385 (orAsm (.mm false a b) (minmaxA false [a, b]))
    | _ => M.bad 388)
  | .max => (match args with
    | [a, b] => optM 386 (orAsm (.mm true a b) (minmaxA true [a, b]))
    | _ => M.bad 389)
  | _ => M.bad 382
def isIntV : Value → Bool
  | .int _ _ => true
  | _ => false
def oPick [Asm] (f : Fr) (c a b : Operand) : M Value := M.bind (f.eval c) fun v => M.bind (f.eval a) fun x => M.bind (f.eval b) fun y => (match truth v with
    | some t => M.pure (bif t then x else y)
    | none => M.bad 401)
def oAlloc (P : Program) (e : TypeId) : M Value := M.bind (optM 402 (zeroB P e)) fun z => M.bind (guardM 403 (cleanB z)) fun _ => newRowA e z.cells.toList
def oBox (f : Fr) (e : TypeId) (x : Operand) : M Value := M.bind (f.eval x) fun v => newRowA e v.cells.toList
def oBuild (P : Program) (f : Fr) (t : TypeId) (ps : Array (Nat × Operand)) : M Value := M.bind (pairsL f ps.toList) fun vs => optM 404 (buildA P t vs)
def oBuildSlice (P : Program) (f : Fr) (t : TypeId) (n : Nat) (ps : Array (Nat × Operand)) : M Value := M.bind (pairsL f ps.toList) fun vs => buildSliceA P t n vs
def oLoad [Asm] (P : Program) (f : Fr) (t : TypeId) (a : Operand) : M Value := M.bind (f.eval a) fun v => (match v with
    | .chan (some k) => loadX t k
    | v => loadA P t v)
def oStore [Asm] (P : Program) (f : Fr) (t : TypeId) (a x : Operand) : M Value := M.bind (f.eval a) fun v => M.bind (f.eval x) fun u => M.bind (storeX P t v u) fun _ => M.pure undef
def oNilCheck (f : Fr) (x : Operand) : M Value := M.bind (f.eval x) fun v => (match v with
    | .pointer (some a) => M.pure (.pointer (some a))
    | .func (.func g) a b => M.pure (.func (.func g) a b)
    | _ => M.bad 405)
def oBinOp [Asm] (P : Program) (f : Fr) (op : BinOp) (t : TypeId) (x y : Operand) : M Value := M.bind (f.eval x) fun a => M.bind (f.eval y) fun b => binA P op t a b
def oUnOp [Asm] (P : Program) (f : Fr) (op : UnOp) (x : Operand) : M Value := M.bind (f.eval x) fun a => bif plainB a then optM 406 (pureRun P (Op.unary op a)) else optM 407 (asmGet (.un op a))
def oConvert [Asm] (P : Program) (f : Fr) (s d : TypeId) (x : Operand) : M Value := M.bind (f.eval x) fun a => bif isIntT P s && isIntT P d && isIntV a then optM 408 (pureRun P (convert s d a)) else optM 409 (asmGet (.conv s d a))
def oMakeFunc (f : Fr) (g : Fn) (a b : Array Operand) : M Value := M.bind (evalL f a.toList) fun x => M.bind (evalL f b.toList) fun y => (match g with
    | .func h => M.pure (.func (.func h) x.toArray y.toArray)
    | _ => M.bad 410)
def oSliceToArrayPointer [Asm] (P : Program) (f : Fr) (t : TypeId) (x : Operand) : M Value := M.bind (f.eval x) fun v => bif isCx v then appX [t, 1000004] [v] else optM 420 (arrayAtA P t v)
def isSym : Value → Bool
  | .float _ _ => true
  | _ => false
def makeX [Asm] (P : Program) (t : TypeId) (a b : Value) : M Value := bif isSym a then appX [t, 1000002] [a, b] else makeSliceA P t a b
def oMakeSlice [Asm] (P : Program) (f : Fr) (t : TypeId) (l c : Operand) : M Value := M.bind (f.eval l) fun a => M.bind (f.eval c) fun b => makeX P t a b
def oSlice [Asm] (P : Program) (f : Fr) (t : TypeId) (x : Operand) (lo hi mx : Option Operand) : M Value := M.bind (f.eval x) fun v => M.bind (evalO f lo) fun l => M.bind (evalO f hi) fun h => M.bind (evalO f mx) fun m => optM 411 (orAsm (.sli t v l h m) (sliceA P t v l h m))
def oFieldAddr [Asm] (P : Program) (f : Fr) (t : TypeId) (x : Operand) (i : Nat) : M Value := M.bind (f.eval x) fun v => optM 412 (orAsm (.fa t v i) (fieldAddrA P t v i))
def oField (P : Program) (f : Fr) (t : TypeId) (x : Operand) (i : Nat) : M Value := M.bind (f.eval x) fun v => optM 413 (fieldA P t v i)
def oIndexAddr [Asm] (P : Program) (f : Fr) (t : TypeId) (x i : Operand) : M Value := M.bind (f.eval x) fun v => M.bind (f.eval i) fun j => optM 414 (orAsm (.ixa t v j) (indexAddrA P t v j))
def oIndex [Asm] (P : Program) (f : Fr) (t : TypeId) (x i : Operand) : M Value := M.bind (f.eval x) fun v => M.bind (f.eval i) fun j => optM 415 (orAsm (.ix t v j) (indexA P t v j))
def oLookup (P : Program) (f : Fr) (t : TypeId) (x i : Operand) (ok : Bool) : M Value := M.bind (f.eval x) fun v => M.bind (f.eval i) fun j => lookupA P t v j ok
def oMapUpdate (P : Program) (f : Fr) (t : TypeId) (m k x : Operand) : M Value := M.bind (f.eval m) fun a => M.bind (f.eval k) fun b => M.bind (f.eval x) fun v => M.bind (mapUpdateA P t a b v) fun _ => M.pure undef
def oInsert (P : Program) (f : Fr) (t : TypeId) (m k x : Operand) : M Value := M.bind (f.eval m) fun a => M.bind (f.eval k) fun b => M.bind (f.eval x) fun v => M.bind (mapUpdateA P t a b v) fun _ => M.pure undef
def oExtract (f : Fr) (x : Operand) (i : Nat) : M Value := M.bind (f.eval x) fun v => (match v with
    | .tuple vs => optM 416 (vs[i]?)
    | _ => M.bad 417)
def oCall [Asm] (P : Program) (r : Rec) (f : Fr) (c : Call) : M Value := (match c.callee with
    | .value g => M.bind (f.eval g) fun v => M.bind (evalL f c.args.toList) fun args => callV r v args
    | .builtin b => M.bind (evalL f c.args.toList) fun args => builtinA P b c.argTypes args
    | .invoke _ _ => M.bad 418)
def opA [Asm] (P : Program) (r : Rec) (f : Fr) (o : Oper) : M Value := match o.op with
  | .move x => f.eval x
  | .assign x => f.eval x
  | .pick c a b => oPick f c a b
  | .alloc e => oAlloc P e
  | .box e x => oBox f e x
  | .build t ps => oBuild P f t ps
  | .buildSlice t n ps => oBuildSlice P f t n ps
  | .load t a => oLoad P f t a
  | .store t a x => oStore P f t a x
  | .nilCheck x => oNilCheck f x
  | .binOp op t x y _ => oBinOp P f op t x y
  | .unOp op _ x => oUnOp P f op x
  | .convert s d x => oConvert P f s d x
  | .makeFunc g a b => oMakeFunc f g a b
  | .makeMap _t none => M.bind (newA (.map [])) fun i => M.pure (.map (some i))
  | .sliceToArrayPointer t x => oSliceToArrayPointer P f t x
  | .makeSlice t l c => oMakeSlice P f t l c
  | .slice t x lo hi mx => oSlice P f t x lo hi mx
  | .fieldAddr t x i => oFieldAddr P f t x i
  | .field t x i => oField P f t x i
  | .indexAddr t x i => oIndexAddr P f t x i
  | .index t x i => oIndex P f t x i
  | .lookup t x i ok => oLookup P f t x i ok
  | .mapUpdate t m k x => oMapUpdate P f t m k x
  | .insert t m k x => oInsert P f t m k x
  | .extract x i => oExtract f x i
  | .call c => oCall P r f c
  | _ => M.bad 419
def wantedA [Asm] (ops : Array Oper) (f : Fr) (o : Oper) : Option Bool := match o.guard with
  | none => some true
  | some (j, want) => (match (nthL ops.toList j).bind (·.dst) with
    | some d => (match f.get d with
      | some (.bool b) => some (b == want)
      | some (.float k i) => (match truth (.float k i) with
        | some b => some (b == want)
        | none => none)
      | some (.chan _) => none
      | some _ => some false
      | none => none)
    | none => some false)
def stepV [Asm] (P : Program) (r : Rec) (ops : Array Oper) (o : Oper) (f : Fr) : M Value := match wantedA ops f o with
  | some b => bif b then opA P r f o else M.pure undef
  | none => M.bad 204
def stepA [Asm] (P : Program) (r : Rec) (ops : Array Oper) (o : Oper) (f : Fr) : M Fr :=
  M.bind (stepV P r ops o f) fun v => M.pure (f.put o.dst v)
def regionL [Asm] (P : Program) (r : Rec) (ops : Array Oper) : List Oper → Fr → M Fr
  | [], f => M.pure f
  | o :: os, f => M.bind (stepA P r ops o f) fun f' => regionL P r ops os f'
def masks : List Oper → List Nat → List Nat
  | [], acc => acc
  | o :: os, acc => masks os (acc ++ [o.after.toList.foldl (fun s e => if Region.binds .any e then Nat.lor s (Nat.lor (2 ^ e.on) (acc.getD e.on 0)) else s) 0])
def pureOp (o : Oper) : Bool := match o.op with
  | .move _ => true
  | .assign _ => true
  | .pick .. => true
  | .build .. => true
  | .nilCheck _ => true
  | .binOp .. => true
  | .unOp .. => true
  | .convert .. => true
  | .makeFunc .. => true
  | .fieldAddr .. => true
  | .field .. => true
  | .indexAddr .. => true
  | .index .. => true
  | .slice .. => true
  | .extract .. => true
  | _ => false
def apartFrom (ops : Array Oper) (oj : Oper) (mask : Nat) : Nat → List Oper → Bool
  | _, [] => true
  | i, o :: os => (Nat.testBit mask i || o.apart ops oj) && apartFrom ops oj mask (i + 1) os
def mayTouch (oj : Oper) (mask : Nat) : Nat → List Oper → List Nat
  | _, [] => []
  | i, o :: os => bif Nat.testBit mask i || pureOp o || pureOp oj then mayTouch oj mask (i + 1) os else i :: mayTouch oj mask (i + 1) os
def noSel (o : Oper) : Bool := match o.op with
  | .select .. => false
  | _ => true
def statics (ops : Array Oper) : List Nat → Nat → List Oper → Option (List (List Nat))
  | ms, j, o :: os =>
    let m := ms.getD j 0
    bif noSel o && (o.after.toList.all fun e => !(Region.binds .any e) || Nat.blt e.on j) && apartFrom ops o m 0 (ops.toList.take j) then (match statics ops ms (j + 1) os with
      | some rest => some (mayTouch o m 0 (ops.toList.take j) :: rest)
      | none => none) else none
  | _, _, [] => some []
def clashAny (l : Lg) (logs : List Lg) : List Nat → Bool
  | [] => false
  | i :: is => (logs.getD i .nil).clash l || clashAny l logs is
def bindL {α β : Type} (m : M α) (f : α → Lg → M β) : M β := fun c h =>
  R.rec (motive := fun _ => R β) (fun n => .bad n)
    (fun a c1 h1 l1 => R.rec (motive := fun _ => R β) (fun n => .bad n) (fun b c2 h2 l2 => .ok b c2 h2 (.app l1 l2)) (f a l1 c1 h1)) (m c h)
def regionD [Asm] (P : Program) (r : Rec) (ops : Array Oper) : List Oper → List (List Nat) → List Lg → Fr → M Fr
  | [], _, _, f => M.pure f
  | o :: os, st, logs, f => bindL (stepV P r ops o f) fun v l =>
      bif clashAny l logs (st.headD []) then M.bad 501 else regionD P r ops os st.tail (logs ++ [l]) (f.put o.dst v)
def regionA [Asm] (P : Program) (r : Rec) (ops : Array Oper) (draw : Bool) (f : Fr) : M Fr :=
  bif draw then (match statics ops (masks ops.toList []) 0 ops.toList with
    | none => M.bad 502
    | some st => regionD P r ops ops.toList st [] f)
  else regionL P r ops ops.toList f
def enterA (f : Fr) : M (Nat × List Nat) := match f.ro with
  | none => M.bind (newA .defd) fun d => M.pure (d, [d])
  | some l => M.bind (lpGet l) fun x => M.pure (x.dfr, [])
def callF (r : Rec) (f : Value) (args : List Value) : M Value := match f with
  | .func (.func g) first captured => r.call g (first.toList ++ args ++ captured.toList)
  | _ => M.bad 605
def rangeA (r : Rec) (g : Value) (ps : List Tmp) (assign body : Code) (f : Fr) : M (Exit × Fr) :=
  M.bind (enterA f) fun (d, mark) =>
  M.bind (newA (.loop .ready none f ps assign body d)) fun l =>
  M.bind (callF r g [.func (.yield l) #[] #[]]) fun _ =>
  M.bind (lpGet l) fun x => (match x.st with
  | .busy => M.bad 604
  | _ =>
    M.bind (lpSet l .exhausted x.pend) fun _ => (match x.pend with
    | none => M.pure (.normal, ⟨f.t, f.n, f.ro, mark ++ f.ds⟩)
    | some c => r.exec c ⟨f.t, f.n, f.ro, mark ++ f.ds⟩))
def execS [Asm] (P : Program) (r : Rec) : Code → Fr → M (Exit × Fr)
  | .skip, f => M.pure (.normal, f)
  | .label _, f => M.pure (.normal, f)
  | .region _ ops draw, f => M.bind (regionA P r ops draw f) fun f' => M.pure (.normal, f')
  | .seq a b, f => M.bind (r.exec a f) fun x => (match x with
    | (.normal, f') => r.exec b f'
    | y => M.pure y)
  | .cond c a b, f => M.bind (f.eval c) fun v => (match truth v with
    | some t => bif t then r.exec a f else r.exec b f
    | none => M.bad 601)
  | .block id b, f => M.bind (r.exec b f) fun x => (match x with
    | (.exit id', f') => M.pure (bif Nat.beq id' id then .normal else .exit id', f')
    | y => M.pure y)
  | .loop b, f => M.bind (r.exec b f) fun x => (match x with
    | (.normal, f') => r.exec (.loop b) f'
    | y => M.pure y)
  | .exit id, f => M.pure (.exit id, f)
  | .ret, f => M.pure (.ret, f)
  | .scope b, f => M.bind (r.exec b f) fun x => (match x with
    | (.goto _, _) => M.bad 602
    | y => M.pure y)
  | .rangeFunc g ps assign body, f => M.bind (f.eval g) fun v => rangeA r v ps.toList assign body f
  | _, _ => M.bad 603
def resA (P : Program) (f : Fr) : List ResultVar → M (List Value)
  | [] => M.pure []
  | .tmp t :: rs => M.bind (optM 205 (f.get t)) fun v => M.bind (resA P f rs) fun vs => M.pure (v :: vs)
  | .cell a t :: rs => M.bind (optM 206 (f.get a)) fun p => M.bind (loadA P t p) fun v => M.bind (resA P f rs) fun vs => M.pure (v :: vs)
def resultsA (P : Program) (fn : Func) (f : Fr) : M Value := M.bind (resA P f fn.results.toList) fun vs =>
  match vs with
  | [v] => M.pure v
  | vs => M.pure (.tuple vs.toArray)
abbrev Tbl := FuncId → Option (List Value → M Value)
def callS (P : Program) (tbl : Tbl) (r : Rec) (g : FuncId) (args : List Value) : M Value := match tbl g with
  | some m => m args
  | none => match nthL P.funcs.toList g with
    | none => M.bad 610
    | some fn => bif fn.name == "runtime.NumGoroutine" then M.bad 611 else match fn.body with
      | none => M.bad 612
      | some c => M.bind (r.exec c (Fr.init args (args.length + (fn.ntmps - args.length)))) fun x => (match x with
        | (.normal, f) => M.bind (takeL f.ds) fun _ => resultsA P fn f
        | (.ret, f) => M.bind (takeL f.ds) fun _ => resultsA P fn f
        | _ => M.bad 613)
def badRec : Rec := ⟨fun _ _ => M.bad 1, fun _ _ => M.bad 2⟩
def rec [Asm] (P : Program) (tbl : Tbl) : Nat → Rec
  | 0 => badRec
  | n + 1 => ⟨execS P (rec P tbl n), callS P tbl (rec P tbl n)⟩
def noTbl : Tbl := fun _ => none
end
end Go.Sx
namespace Go.Sx
theorem Tr.get_nil {α : Type} (k : Nat) : (Tr.nil : Tr α).get k = none := rfl
theorem Tr.get_zero {α : Type} (v : Option α) (l r : Tr α) : (Tr.node v l r).get 0 = v := rfl
theorem Tr.get_succ {α : Type} (v : Option α) (l r : Tr α) (j : Nat) : (Tr.node v l r).get (j + 1) = bif Nat.beq (j % 2) 0 then l.get (j / 2) else r.get (j / 2) := by
  show Bool.rec (motive := fun _ => Option α) (r.get (Nat.div j 2)) (l.get (Nat.div j 2)) (Nat.beq (Nat.mod j 2) 0) = _
  show Bool.rec (motive := fun _ => Option α) (r.get (j / 2)) (l.get (j / 2)) (Nat.beq (j % 2) 0) = _
  cases Nat.beq (j % 2) 0 <;> rfl
theorem Tr.path_zero {α : Type} (v : α) (f : Nat) : Tr.path v (f + 1) 0 = .node (some v) .nil .nil := rfl
theorem Tr.path_succ {α : Type} (v : α) (f j : Nat) : Tr.path v (f + 1) (j + 1) = bif Nat.beq (j % 2) 0 then .node none (Tr.path v f (j / 2)) .nil else .node none .nil (Tr.path v f (j / 2)) := by
  show Bool.rec (motive := fun _ => Tr α) (.node none .nil (Tr.path v f (j / 2))) (.node none (Tr.path v f (j / 2)) .nil) (Nat.beq (j % 2) 0) = _
  cases Nat.beq (j % 2) 0 <;> rfl
theorem Tr.set_nil {α : Type} (k : Nat) (v : α) : (Tr.nil : Tr α).set k v = Tr.path v (k + 1) k := rfl
theorem Tr.set_zero {α : Type} (u : Option α) (l r : Tr α) (v : α) : (Tr.node u l r).set 0 v = .node (some v) l r := rfl
theorem Tr.set_succ {α : Type} (u : Option α) (l r : Tr α) (j : Nat) (v : α) : (Tr.node u l r).set (j + 1) v = bif Nat.beq (j % 2) 0 then .node u (l.set (j / 2) v) r else .node u l (r.set (j / 2) v) := by
  show Bool.rec (motive := fun _ => Tr α) (.node u l (r.set (j / 2) v)) (.node u (l.set (j / 2) v) r) (Nat.beq (j % 2) 0) = _
  cases Nat.beq (j % 2) 0 <;> rfl
theorem Tr.get_path {α : Type} (v : α) : ∀ (f k j : Nat), k < f → (Tr.path v f k).get j = if j = k then some v else none
  | 0, k, j, h => by omega
  | f + 1, k, j, h => by
    cases k with
    | zero =>
      rw [Tr.path_zero]
      cases j with
      | zero => rfl
      | succ j => rw [Tr.get_succ]; cases Nat.beq (j % 2) 0 <;> simp [Tr.get_nil]
    | succ k =>
      have ih := Tr.get_path v f (k / 2)
      rw [Tr.path_succ]
      cases hb : Nat.beq (k % 2) 0 with
      | true =>
        simp only [cond_true]
        have hk := Nat.eq_of_beq_eq_true hb
        cases j with
        | zero => simp [Tr.get_zero]
        | succ j =>
          rw [Tr.get_succ]
          cases hc : Nat.beq (j % 2) 0 with
          | true =>
            have hj := Nat.eq_of_beq_eq_true hc
            simp only [cond_true]
            rw [ih _ (by omega)]
            by_cases h2 : j / 2 = k / 2
            · rw [if_pos h2, if_pos (by omega)]
            · rw [if_neg h2, if_neg (by omega)]
          | false =>
            simp only [cond_false, Tr.get_nil]
            rw [if_neg (fun e => by have : j = k := by omega
                                    rw [this, hb] at hc; cases hc)]
      | false =>
        simp only [cond_false]
        have hk : k % 2 ≠ 0 := fun e => by rw [e] at hb; cases hb
        cases j with
        | zero => simp [Tr.get_zero]
        | succ j =>
          rw [Tr.get_succ]
          cases hc : Nat.beq (j % 2) 0 with
          | true =>
            simp only [cond_true, Tr.get_nil]
            rw [if_neg (fun e => by have : j = k := by omega
                                    rw [this, hb] at hc; cases hc)]
          | false =>
            have hj : j % 2 ≠ 0 := fun e => by rw [e] at hc; cases hc
            simp only [cond_false]
            rw [ih _ (by omega)]
            by_cases h2 : j / 2 = k / 2
            · rw [if_pos h2, if_pos (by omega)]
            · rw [if_neg h2, if_neg (by omega)]
theorem Tr.get_set {α : Type} (t : Tr α) (k j : Nat) (v : α) : (t.set k v).get j = if j = k then some v else t.get j := by
  induction t generalizing k j with
  | nil => rw [Tr.set_nil, Tr.get_path _ _ _ _ (by omega)]; rfl
  | node u l r ihl ihr =>
    cases k with
    | zero =>
      rw [Tr.set_zero]
      cases j with
      | zero => rfl
      | succ j => rw [Tr.get_succ, Tr.get_succ]; simp
    | succ k =>
      rw [Tr.set_succ]
      cases hb : Nat.beq (k % 2) 0 with
      | true =>
        simp only [cond_true]
        have hk := Nat.eq_of_beq_eq_true hb
        cases j with
        | zero => simp [Tr.get_zero]
        | succ j =>
          rw [Tr.get_succ, Tr.get_succ]
          cases hc : Nat.beq (j % 2) 0 with
          | true =>
            have hj := Nat.eq_of_beq_eq_true hc
            simp only [cond_true]
            rw [ihl]
            by_cases h2 : j / 2 = k / 2
            · rw [if_pos h2, if_pos (by omega)]
            · rw [if_neg h2, if_neg (by omega)]
          | false =>
            simp only [cond_false]
            rw [if_neg (fun e => by have : j = k := by omega
                                    rw [this, hb] at hc; cases hc)]
      | false =>
        simp only [cond_false]
        have hk : k % 2 ≠ 0 := fun e => by rw [e] at hb; cases hb
        cases j with
        | zero => simp [Tr.get_zero]
        | succ j =>
          rw [Tr.get_succ, Tr.get_succ]
          cases hc : Nat.beq (j % 2) 0 with
          | true =>
            simp only [cond_true]
            rw [if_neg (fun e => by have : j = k := by omega
                                    rw [this, hb] at hc; cases hc)]
          | false =>
            have hj : j % 2 ≠ 0 := fun e => by rw [e] at hc; cases hc
            simp only [cond_false]
            rw [ihr]
            by_cases h2 : j / 2 = k / 2
            · rw [if_pos h2, if_pos (by omega)]
            · rw [if_neg h2, if_neg (by omega)]
theorem nthL_eq {α : Type} : ∀ (l : List α) (k : Nat), nthL l k = l[k]?
  | [], _ => rfl
  | _ :: _, 0 => rfl
  | _ :: l, k + 1 => by rw [List.getElem?_cons_succ]; exact nthL_eq l k
theorem setL_std {α : Type} (v : α) : ∀ (l : List α) (k : Nat), setL v l k = l.set k v
  | [], _ => rfl
  | _ :: _, 0 => rfl
  | x :: l, k + 1 => by rw [List.set_cons_succ, ← setL_std v l k]; rfl
theorem takL_eq {α : Type} : ∀ (l : List α) (k : Nat), takL l k = l.take k
  | [], _ => by simp [takL]
  | _ :: _, 0 => rfl
  | x :: l, k + 1 => by rw [List.take_succ_cons, ← takL_eq l k]; rfl
theorem droL_eq {α : Type} : ∀ (l : List α) (k : Nat), droL l k = l.drop k
  | [], _ => by simp [droL]
  | _ :: _, 0 => rfl
  | x :: l, k + 1 => by rw [List.drop_succ_cons, ← droL_eq l k]; rfl
theorem lenL_eq {α : Type} : ∀ (l : List α), lenL l = l.length
  | [] => rfl
  | _ :: l => by rw [List.length_cons, ← lenL_eq l]; rfl
theorem appL_eq {α : Type} : ∀ (l r : List α), appL l r = l ++ r
  | [], _ => rfl
  | x :: l, r => by rw [List.cons_append, ← appL_eq l r]; rfl
theorem Tr.get_set_self {α : Type} (t : Tr α) (k : Nat) (v : α) : (t.set k v).get k = some v := by simp [Tr.get_set]
theorem Tr.get_set_ne {α : Type} (t : Tr α) {k j : Nat} (v : α) (h : j ≠ k) : (t.set k v).get j = t.get j := by simp [Tr.get_set, h]
theorem blt_iff {a b : Nat} : Nat.blt a b = true ↔ a < b := by simp [Nat.blt_eq]
theorem Tr.path_set {α : Type} (u v : α) : ∀ (f k : Nat), k < f → (Tr.path u f k).set k v = Tr.path v f k
  | 0, k, h => by omega
  | f + 1, k, h => by
    cases k with
    | zero => rfl
    | succ k =>
      have ih := Tr.path_set u v f (k / 2) (by omega)
      rw [Tr.path_succ, Tr.path_succ]
      cases hb : Nat.beq (k % 2) 0 <;> simp only [cond_true, cond_false, Tr.set_succ, hb, ih]
theorem Tr.set_set {α : Type} (t : Tr α) (k : Nat) (u v : α) : (t.set k u).set k v = t.set k v := by
  induction t generalizing k with
  | nil => rw [Tr.set_nil, Tr.set_nil, Tr.path_set _ _ _ _ (by omega)]
  | node w l r ihl ihr =>
    cases k with
    | zero => rfl
    | succ k =>
      rw [Tr.set_succ, Tr.set_succ]
      cases hb : Nat.beq (k % 2) 0 <;> simp only [cond_true, cond_false, Tr.set_succ, hb, ihl, ihr]
theorem div_eq (a b : Nat) : Nat.div a b = a / b := rfl
theorem mod_eq (a b : Nat) : Nat.mod a b = a % b := rfl
theorem padL_get : ∀ (m : Nat) (l : List Value) (k : Nat), (padL m l)[k]? = if k < m then some (l[k]?.getD undef) else none
  | 0, l, k => by simp [padL]
  | m + 1, [], k => by
    cases k with
    | zero => simp [padL]
    | succ k => rw [padL, List.getElem?_cons_succ, padL_get m [] k]; simp
  | m + 1, x :: xs, k => by
    cases k with
    | zero => simp [padL]
    | succ k => rw [padL, List.getElem?_cons_succ, padL_get m xs k]; simp
theorem padL_len : ∀ (m : Nat) (l : List Value), (padL m l).length = m
  | 0, l => rfl
  | m + 1, [] => by rw [padL, List.length_cons, padL_len m []]
  | m + 1, x :: xs => by rw [padL, List.length_cons, padL_len m xs]
theorem chunk_get {t : Tr (List Value)} {k : Nat} {l : List Value} (h : t.get (k / 64) = some l) : chunk t k = l := by
  unfold chunk; rw [div_eq, h]
theorem get_blk (t : Tr (List Value)) (n k : Nat) : (Cells.blk t n).get k = if k < n then some ((chunk t k)[k % 64]?.getD undef) else none := by
  simp only [Cells.get, nthL_eq, mod_eq]
  by_cases hk : k < n
  · rw [if_pos hk, blt_iff.2 hk]
    simp only [cond_true]
    cases (chunk t k)[k % 64]? <;> rfl
  · have : Nat.blt k n = false := by
      cases hb : Nat.blt k n with
      | false => rfl
      | true => exact absurd (blt_iff.1 hb) hk
    rw [if_neg hk, this]; rfl
theorem get_lst (l : List Value) (k : Nat) : (Cells.lst l).get k = l[k]? := nthL_eq l k
theorem chunk_set (t : Tr (List Value)) (c j : Nat) (l : List Value) : chunk (t.set c l) j = if j / 64 = c then l else chunk t j := by
  unfold chunk
  simp only [div_eq, Tr.get_set]
  by_cases h : j / 64 = c
  · simp [h]
  · simp [h]
theorem chunk_eq {t : Tr (List Value)} {j k : Nat} (h : j / 64 = k / 64) : chunk t j = chunk t k := by unfold chunk; simp only [div_eq, h]
theorem Cells.get_set {cs : Cells} {k : Nat} {u v : Value} (h : cs.get k = some u) (j : Nat) : (cs.set k v).get j = if j = k then some v else cs.get j := by
  cases cs with
  | lst l =>
    simp only [Cells.set, setL_std, get_lst] at *
    have hk : k < l.length := (List.getElem?_eq_some_iff.1 h).1
    by_cases hj : j = k
    · subst hj; simp [hk]
    · rw [List.getElem?_set_ne (Ne.symm hj)]; simp [hj]
  | blk t n =>
    have hkn : k < n := by
      rw [get_blk] at h
      by_cases hk : k < n
      · exact hk
      · rw [if_neg hk] at h; cases h
    have key : ∀ l : List Value, k % 64 < l.length → (∀ i : Nat, l[i]?.getD undef = (chunk t k)[i]?.getD undef) → (Cells.blk (t.set (k / 64) (l.set (k % 64) v)) n).get j = if j = k then some v else (Cells.blk t n).get j := by
      intro l hl hg
      rw [get_blk, get_blk, chunk_set]
      by_cases hj : j = k
      · subst hj
        rw [if_pos hkn, if_pos rfl, if_pos rfl]
        simp [hl]
      · rw [if_neg hj]
        by_cases hjn : j < n
        · rw [if_pos hjn, if_pos hjn]
          by_cases hd : j / 64 = k / 64
          · have hm : k % 64 ≠ j % 64 := fun e => hj (by omega)
            rw [if_pos hd, List.getElem?_set_ne hm, hg, chunk_eq hd]
          · rw [if_neg hd]
        · rw [if_neg hjn, if_neg hjn]
    simp only [Cells.set, nthL_eq, setL_std, mod_eq, div_eq]
    cases hc : (chunk t k)[k % 64]? with
    | some w => exact key _ (List.getElem?_eq_some_iff.1 hc).1 (fun _ => rfl)
    | none =>
      refine key _ (by rw [padL_len]; omega) fun i => ?_
      rw [padL_get]
      by_cases hi : i < 64
      · rw [if_pos hi]; rfl
      · rw [if_neg hi]
        have := List.getElem?_eq_none_iff.1 hc
        rw [List.getElem?_eq_none (by omega)]
theorem Cells.len_set (cs : Cells) (k : Nat) (v : Value) : (cs.set k v).len = cs.len := by
  cases cs with
  | lst l => simp [Cells.set, Cells.len, setL_std, lenL_eq]
  | blk t n => simp only [Cells.set]; cases nthL (chunk t k) (Nat.mod k 64) <;> rfl
theorem Cells.get_lt {cs : Cells} {k : Nat} {v : Value} (h : cs.get k = some v) : k < cs.len := by
  cases cs with
  | lst l =>
    rw [get_lst] at h
    simp only [Cells.len, lenL_eq]
    exact (List.getElem?_eq_some_iff.1 h).1
  | blk t n =>
    rw [get_blk] at h
    by_cases hk : k < n
    · exact hk
    · rw [if_neg hk] at h; cases h
theorem Cells.full (cs : Cells) (k : Nat) (h : k < cs.len) : (cs.get k).isSome = true := by
  cases cs with
  | lst l =>
    simp only [Cells.len, lenL_eq] at h
    rw [get_lst]; simp [h]
  | blk t n =>
    have h' : k < n := h
    rw [get_blk, if_pos h']; rfl
theorem mkBlk_get : ∀ (f i : Nat) (l : List Value) (t : Tr (List Value)), l.length ≤ f → ∀ j, (mkBlk f i l t).get j = if i ≤ j ∧ (j - i) * 64 < l.length then some ((l.drop ((j - i) * 64)).take 64) else t.get j
  | 0, i, l, t, h, j => by
    have : l.length = 0 := by omega
    rw [mkBlk, if_neg (by omega)]
  | f + 1, i, l, t, h, j => by
    cases l with
    | nil => rw [mkBlk, if_neg (by simp)]
    | cons x xs =>
      rw [mkBlk, droL_eq, takL_eq, mkBlk_get f (i + 1) _ _ (by simp only [List.length_drop, List.length_cons] at *; omega) j]
      rw [List.length_drop]
      by_cases h1 : i + 1 ≤ j ∧ (j - (i + 1)) * 64 < (x :: xs).length - 64
      · rw [if_pos h1, if_pos (by omega), List.drop_drop]
        rw [show 64 + (j - (i + 1)) * 64 = (j - i) * 64 from by omega]
      · rw [if_neg h1, Tr.get_set]
        by_cases h2 : j = i
        · subst h2
          rw [if_pos rfl, if_pos ⟨Nat.le_refl _, by simp⟩]
          simp
        · rw [if_neg h2, if_neg (by omega)]
theorem mkCells_get (l : List Value) (k : Nat) : (mkCells l).get k = l[k]? := by
  unfold mkCells
  simp only [lenL_eq]
  cases Nat.ble l.length 256 with
  | true => exact nthL_eq l k
  | false =>
    simp only [cond_false]
    rw [get_blk]
    by_cases hk : k < l.length
    · have hc : chunk (mkBlk l.length 0 l .nil) k = (l.drop (k / 64 * 64)).take 64 := by
        refine chunk_get ?_
        rw [mkBlk_get _ _ _ _ (Nat.le_refl _), if_pos (by omega)]
        rfl
      rw [if_pos hk, hc, List.getElem?_take, if_pos (by omega), List.getElem?_drop, show k / 64 * 64 + k % 64 = k from by omega]
      simp [hk]
    · rw [if_neg hk, List.getElem?_eq_none (by omega)]
theorem mkCells_len (l : List Value) : (mkCells l).len = l.length := by
  unfold mkCells
  simp only [lenL_eq]
  cases Nat.ble l.length 256
  · rfl
  · exact lenL_eq l
theorem colBlk_get {t : Tr (List Value)} : ∀ {m i : Nat} {vs : List Value}, colBlk t i m = some vs → vs.length = m * 64 ∧ ∀ k, k < m * 64 → ∃ l, t.get (i + k / 64) = some l ∧ l.length = 64 ∧ vs[k]? = l[k % 64]?
  | 0, i, vs, h => by simp only [colBlk, Option.some.injEq] at h; subst h; exact ⟨rfl, fun k hk => by omega⟩
  | m + 1, i, vs, h => by
    simp only [colBlk, lenL_eq, appL_eq] at h
    split at h
    · rename_i l r hl hr
      cases hb : Nat.beq l.length 64 with
      | false => rw [hb] at h; simp at h
      | true =>
        rw [hb] at h
        simp only [cond_true, Option.some.injEq] at h
        subst h
        have hlen := Nat.eq_of_beq_eq_true hb
        obtain ⟨h1, h2⟩ := colBlk_get hr
        refine ⟨by simp [hlen, h1]; omega, fun k hk => ?_⟩
        by_cases hk2 : k < 64
        · refine ⟨l, by rw [show k / 64 = 0 from by omega]; exact hl, hlen, ?_⟩
          rw [List.getElem?_append_left (by omega), Nat.mod_eq_of_lt hk2]
        · obtain ⟨l2, g1, g2, g3⟩ := h2 (k - 64) (by omega)
          refine ⟨l2, by rw [show i + k / 64 = i + 1 + (k - 64) / 64 from by omega]; exact g1, g2, ?_⟩
          rw [List.getElem?_append_right (by omega), hlen, g3]
          congr 1; omega
    · cases h
theorem Cells.ext_get {cs : Cells} {o n : Nat} {vs : List Value} (h : cs.ext o n = some vs) : vs.length = n ∧ ∀ k, k < n → cs.get (o + k) = vs[k]? := by
  cases cs with
  | lst l =>
    simp only [Cells.ext, lenL_eq, takL_eq, droL_eq, Nat.add_eq] at h
    cases hb : Nat.ble (o + n) l.length with
    | false => rw [hb] at h; simp at h
    | true =>
      rw [hb] at h
      simp only [cond_true, Option.some.injEq] at h
      have hle := Nat.le_of_ble_eq_true hb
      subst h
      refine ⟨by simp; omega, fun k hk => ?_⟩
      simp only [Cells.get, nthL_eq]
      rw [List.getElem?_take, if_pos hk, List.getElem?_drop]
  | blk t m =>
    simp only [Cells.ext, Nat.add_eq] at h
    cases hb : (Nat.beq (Nat.mod o 64) 0 && Nat.beq (Nat.mod n 64) 0 && Nat.ble (o + n) m) with
    | false => rw [hb] at h; simp at h
    | true =>
      rw [hb] at h
      simp only [cond_true] at h
      simp only [Bool.and_eq_true] at hb
      obtain ⟨⟨h1, h2⟩, h3⟩ := hb
      have h1 := Nat.eq_of_beq_eq_true h1
      have h2 := Nat.eq_of_beq_eq_true h2
      have h3 := Nat.le_of_ble_eq_true h3
      simp only [mod_eq, div_eq] at h1 h2 h
      obtain ⟨g1, g2⟩ := colBlk_get h
      refine ⟨by omega, fun k hk => ?_⟩
      obtain ⟨l, k1, k2, k3⟩ := g2 k (by omega)
      rw [get_blk, if_pos (by omega), chunk_get (show t.get ((o + k) / 64) = some l from by rw [show (o + k) / 64 = o / 64 + k / 64 from by omega]; exact k1), k3, show (o + k) % 64 = k % 64 from by omega]
      have hlt : k % 64 < l.length := by omega
      simp [hlt]
theorem setL_eq : ∀ (vs l : List Value) (o : Nat), o + vs.length ≤ l.length → (vs.zipIdx o).foldl (fun (cs : List Value) (p : Value × Nat) => cs.set p.2 p.1) l = l.take o ++ (vs ++ l.drop (o + vs.length))
  | [], l, o, _ => by simp
  | v :: vs, l, o, h => by
    simp only [List.length_cons] at h
    simp only [List.zipIdx_cons, List.foldl_cons]
    rw [setL_eq vs (l.set o v) (o + 1) (by simp; omega)]
    have h1 : (l.set o v).take (o + 1) = l.take o ++ [v] := by
      rw [List.take_succ_eq_append_getElem (by simp; omega)]
      simp [List.take_set_of_le]
    have h2 : (l.set o v).drop (o + 1 + vs.length) = l.drop (o + (v :: vs).length) := by
      rw [List.drop_set_of_lt (by omega)]
      congr 1; simp; omega
    rw [h1, h2]; simp
noncomputable def Cells.sets : Cells → Nat → List Value → Cells
  | cs, _, [] => cs
  | cs, o, v :: vs => (cs.set o v).sets (o + 1) vs
theorem sets_lst : ∀ (vs l : List Value) (o : Nat), (Cells.lst l).sets o vs = .lst ((vs.zipIdx o).foldl (fun (cs : List Value) (p : Value × Nat) => cs.set p.2 p.1) l)
  | [], _, _ => rfl
  | v :: vs, l, o => by
    simp only [Cells.sets, Cells.set, setL_std, List.zipIdx_cons, List.foldl_cons]
    exact sets_lst vs _ _
theorem sets_blk (m : Nat) (c : Nat) : ∀ (vs l : List Value) (t : Tr (List Value)) (o : Nat), t.get c = some l → l.length = 64 → o + vs.length ≤ 64 → 0 < vs.length →
    (Cells.blk t m).sets (c * 64 + o) vs = .blk (t.set c ((vs.zipIdx o).foldl (fun (cs : List Value) (p : Value × Nat) => cs.set p.2 p.1) l)) m
  | [], _, _, _, _, _, _, h => by simp at h
  | v :: vs, l, t, o, hl, hlen, h, _ => by
    simp only [List.length_cons] at h
    have hch : chunk t (c * 64 + o) = l := chunk_get (by rw [show (c * 64 + o) / 64 = c from by omega]; exact hl)
    have hn : nthL l (Nat.mod (c * 64 + o) 64) = some l[o] := by
      rw [nthL_eq, mod_eq, show (c * 64 + o) % 64 = o from by omega]; simp
    simp only [Cells.sets, Cells.set, setL_std, hch, hn]
    rw [show Nat.div (c * 64 + o) 64 = c from by rw [div_eq]; omega, show Nat.mod (c * 64 + o) 64 = o from by rw [mod_eq]; omega]
    simp only [List.zipIdx_cons, List.foldl_cons]
    cases vs with
    | nil => rfl
    | cons u us =>
      have := sets_blk m c (u :: us) (l.set o v) (t.set c (l.set o v)) (o + 1) (Tr.get_set_self _ _ _) (by simpa using hlen) (by simp only [List.length_cons] at h ⊢; omega) (by simp)
      rw [Tr.set_set] at this
      exact this
theorem Cells.put_eq {cs cs' : Cells} {o : Nat} {vs : List Value} (h : cs.put o vs = some cs') (hne : 0 < vs.length) : cs' = cs.sets o vs ∧ ∀ k, k < vs.length → (cs.get (o + k)).isSome = true := by
  cases cs with
  | lst l =>
    simp only [Cells.put, lenL_eq, takL_eq, droL_eq, appL_eq, Nat.add_eq] at h
    cases hb : Nat.ble (o + vs.length) l.length with
    | false => rw [hb] at h; simp at h
    | true =>
      rw [hb] at h
      simp only [cond_true, Option.some.injEq] at h
      have hle := Nat.le_of_ble_eq_true hb
      subst h
      refine ⟨by rw [sets_lst, setL_eq _ _ _ hle], fun k hk => ?_⟩
      simp only [Cells.get, nthL_eq]
      have hlt : o + k < l.length := by omega
      simp [hlt]
  | blk t m =>
    simp only [Cells.put, lenL_eq, Nat.add_eq] at h
    cases hb : (Nat.beq (Nat.mod o 64) 0 && Nat.beq vs.length 64 && Nat.ble (o + 64) m) with
    | false => rw [hb] at h; simp at h
    | true =>
      rw [hb] at h
      simp only [cond_true] at h
      simp only [Bool.and_eq_true] at hb
      obtain ⟨⟨h1, h2⟩, h3⟩ := hb
      have h1 := Nat.eq_of_beq_eq_true h1
      have h2 := Nat.eq_of_beq_eq_true h2
      have h3 := Nat.le_of_ble_eq_true h3
      simp only [mod_eq, div_eq] at h1 h
      cases hl : t.get (o / 64) with
      | none => rw [hl] at h; simp at h
      | some l =>
        rw [hl] at h
        simp only at h
        cases hbl : Nat.beq l.length 64 with
        | false => rw [hbl] at h; simp at h
        | true =>
          rw [hbl] at h
          simp only [cond_true, Option.some.injEq] at h
          have hlen := Nat.eq_of_beq_eq_true hbl
          subst h
          have := sets_blk m (o / 64) vs l t 0 hl hlen (by omega) hne
          rw [setL_eq vs l 0 (by omega)] at this
          rw [show o / 64 * 64 + 0 = o from by omega] at this
          refine ⟨?_, fun k hk => ?_⟩
          · rw [this]
            congr 2
            simp [List.drop_eq_nil_of_le (show l.length ≤ vs.length from by omega)]
          · exact Cells.full _ _ (by show o + k < m; omega)
theorem blkPush_spec : ∀ {vs : List Value} {t : Tr (List Value)} {n : Nat}, (blkPush t n vs).len = n + vs.length ∧ ∀ k, (blkPush t n vs).get k = if k < n then (Cells.blk t n).get k else vs[k - n]?
  | [], t, n => by
    refine ⟨rfl, fun k => ?_⟩
    by_cases hk : k < n
    · rw [if_pos hk]; rfl
    · rw [if_neg hk, blkPush, get_blk, if_neg hk]; rfl
  | v :: vs, t, n => by
    obtain ⟨h1, h2⟩ := blkPush_spec (vs := vs) (t := t.set (Nat.div n 64) (appL (padL (Nat.mod n 64) (chunk t n)) [v])) (n := n + 1)
    rw [blkPush]
    refine ⟨by rw [h1]; simp; omega, fun k => ?_⟩
    rw [h2 k, appL_eq, div_eq, mod_eq]
    by_cases hk : k < n
    · rw [if_pos hk, if_pos (by omega), get_blk, get_blk, if_pos (by omega), if_pos hk, chunk_set]
      by_cases hd : k / 64 = n / 64
      · rw [if_pos hd, List.getElem?_append_left (by rw [padL_len]; omega), padL_get, if_pos (by omega), chunk_eq hd]
        rfl
      · rw [if_neg hd]
    · rw [if_neg hk]
      by_cases hk2 : k = n
      · subst hk2
        rw [if_pos (by omega), get_blk, if_pos (by omega), chunk_set, if_pos rfl, List.getElem?_append_right (by rw [padL_len]; omega), padL_len]
        simp
      · rw [if_neg (by omega), show k - n = (k - (n + 1)) + 1 from by omega, List.getElem?_cons_succ]
theorem app_spec (cs : Cells) (vs : List Value) : (cs.app vs).len = cs.len + vs.length ∧ ∀ k, (cs.app vs).get k = if k < cs.len then cs.get k else vs[k - cs.len]? := by
  cases cs with
  | lst l =>
    have e1 : (Cells.lst l).len = l.length := lenL_eq l
    have e2 : ∀ k, (Cells.lst l).get k = l[k]? := nthL_eq l
    have e3 : (Cells.lst l).app vs = mkCells (l ++ vs) := by simp only [Cells.app, appL_eq]
    rw [e3]
    refine ⟨by rw [mkCells_len, e1]; simp, fun k => ?_⟩
    rw [mkCells_get, e1, e2]
    by_cases hk : k < l.length
    · rw [if_pos hk, List.getElem?_append_left hk]
    · rw [if_neg hk, List.getElem?_append_right (by omega)]
  | blk t n => exact blkPush_spec
theorem full_list (cs : Cells) : ∃ l : List Value, l.length = cs.len ∧ ∀ k, cs.get k = l[k]? := by
  refine ⟨(List.range cs.len).map fun k => (cs.get k).getD undef, by simp, fun k => ?_⟩
  by_cases hk : k < cs.len
  · obtain ⟨v, hv⟩ := Option.isSome_iff_exists.1 (cs.full k hk)
    simp [hk, hv]
  · rw [List.getElem?_eq_none (by simp; omega)]
    cases hg : cs.get k with
    | none => rfl
    | some v => exact absurd (Cells.get_lt hg) hk
structure EI where
  blk : Nat
  off : Nat
  cap : Nat
abbrev Env := Nat → Option EI
def Env.le (E E' : Env) : Prop := ∀ i e, E i = some e → E' i = some e
theorem Env.le_refl (E : Env) : E.le E := fun _ _ h => h
theorem Env.le_trans {E E' E'' : Env} (h : E.le E') (k : E'.le E'') : E.le E'' := fun i e x => k i e (h i e x)
def Env.upd (E : Env) (j : Nat) (e : EI) : Env := fun i => if i = j then some e else E i
theorem Env.le_upd {E : Env} {j : Nat} {e : EI} (h : E j = none) : E.le (E.upd j e) := fun i x hi => by
  unfold Env.upd
  by_cases hij : i = j
  · subst hij; rw [h] at hi; cases hi
  · simp [hij, hi]
def capOf (e : EI) (c : Nat) : Nat := if c < HALF then c else e.cap - (INF - c)
def mSl (id n c z : Nat) : Value := .slice (match n with | 0 => none | _ + 1 => some ⟨id, 0, none⟩) n (match n with | 0 => z | _ + 1 => c)
class Den where
  v : Nat → Value
  plain : ∀ i, plainS (v i) = true
  len : Nat → Nat
  sh : Nat → Nat × Nat
  o : Nat → Value
  one : ∀ i, oneB (o i) = true
  row : Nat → List Value
  rowPlain : ∀ j, (row j).all plainS = true
  mo : Nat → Option (Nat × Nat × Nat × Nat) := fun _ => none
  jk : List Deferred := []
  moOk : ∀ i id n c z, mo i = some (id, n, c, z) → o i = mSl id n c z := by intro _ _ _ _ _ h; cases h
theorem oneB_plain {u : Value} (hp : Sx.plainS u = true) : Sx.oneB u = true := by cases u <;> first | rfl | (simp [Sx.plainS] at hp)
theorem oneB_iff (v : Value) : oneB v = v.oneCell' := by cases v <;> rfl
section
variable [Den]
inductive VR (E : Env) : Value → Value → Prop
  | sym (k : FloatKind) (i : Nat) {v' : Value} (h : v' = Den.v i) : VR E (.float k i) v'
  | ssl (k : FloatKind) {i p o cp : Nat} {e : EI} {a' : Addr} {v' : Value} (h : E i = some e) (ho : o + (Den.sh p).2 = e.off) (hc : cp = e.cap + (Den.sh p).1) (hn : Den.len p ≤ cp)
      (ha : a' = ⟨e.blk, o, none⟩ ∨ cp = 0) (hv : v' = .slice (some a') (Den.len p) cp) : VR E (.complex k i p) v'
  | opq (i : Nat) {v' : Value} (h : VR E (Den.o i) v') : VR E (.chan (some i)) v'
  | bool (b : Bool) : VR E (.bool b) (.bool b)
  | int (k : IntKind) (n : Int) : VR E (.int k n) (.int k n)
  | str (s : ByteArray) : VR E (.string s) (.string s)
  | nilP : VR E (.pointer none) (.pointer none)
  | nilS : VR E (.slice none 0 0) (.slice none 0 0)
  | weS (b : Option Addr) : VR E (.slice none 0 1) (.slice b 0 0)
  | anS (b : Option Addr) (c : Nat) : VR E (.slice none 0 2) (.slice b 0 c)
  | nilM : VR E (.map none) (.map none)
  | nilF : VR E .nilFunc .nilFunc
  | nilI : VR E .nilIface .nilIface
  | ptr {i o : Nat} {e : EI} (h : E i = some e) : VR E (.pointer (some ⟨i, o, none⟩)) (.pointer (some ⟨e.blk, e.off + o, none⟩))
  | sl {i o n c : Nat} {e : EI} {a' : Addr} (h : E i = some e) (hn : n ≤ capOf e c) (ha : a' = ⟨e.blk, e.off + o, none⟩ ∨ capOf e c = 0) :
      VR E (.slice (some ⟨i, o, none⟩) n c) (.slice (some a') n (capOf e c))
  | map {i : Nat} {e : EI} (h : E i = some e) : VR E (.map (some i)) (.map (some e.blk))
  | fn {g : FuncId} {f f' c c' : Array Value} (hf : f.toList.length = f'.toList.length) (h1 : ∀ (k : Nat) x y, f.toList[k]? = some x → f'.toList[k]? = some y → VR E x y)
      (hc : c.toList.length = c'.toList.length) (h2 : ∀ (k : Nat) x y, c.toList[k]? = some x → c'.toList[k]? = some y → VR E x y) : VR E (.func (.func g) f c) (.func (.func g) f' c')
  | yl {l : Nat} {e : EI} (h : E l = some e) : VR E (.func (.yield l) #[] #[]) (.func (.yield e.blk) #[] #[])
  | agg {f f' : Array Value} (hf : f.toList.length = f'.toList.length) (h1 : ∀ (k : Nat) x y, f.toList[k]? = some x → f'.toList[k]? = some y → VR E x y) : VR E (.agg f) (.agg f')
  | tup {f f' : Array Value} (hf : f.toList.length = f'.toList.length) (h1 : ∀ (k : Nat) x y, f.toList[k]? = some x → f'.toList[k]? = some y → VR E x y) : VR E (.tuple f) (.tuple f')
def LR (E : Env) (xs ys : List Value) : Prop := xs.length = ys.length ∧ ∀ (k : Nat) x y, xs[k]? = some x → ys[k]? = some y → VR E x y
theorem VR.mono {E E' : Env} (h : E.le E') {v v' : Value} (hv : VR E v v') : VR E' v v' := by
  induction hv with
  | sym k i h => exact .sym k i h
  | opq i _ ih => exact .opq i ih
  | ssl k h' ho hc hn ha hv => exact .ssl k (h _ _ h') ho hc hn ha hv
  | bool b => exact .bool b
  | int k n => exact .int k n
  | str s => exact .str s
  | nilP => exact .nilP
  | nilS => exact .nilS
  | weS b => exact .weS b
  | anS b c => exact .anS b c
  | nilM => exact .nilM
  | nilF => exact .nilF
  | nilI => exact .nilI
  | ptr hi => exact .ptr (h _ _ hi)
  | sl hi hn ha => exact .sl (h _ _ hi) hn ha
  | map hi => exact .map (h _ _ hi)
  | fn hf _ hc _ i1 i2 => exact .fn hf i1 hc i2
  | yl hi => exact .yl (h _ _ hi)
  | agg hf _ i1 => exact .agg hf i1
  | tup hf _ i1 => exact .tup hf i1
theorem LR.nil (E : Env) : LR E [] [] := ⟨rfl, fun k x y hx => by simp at hx⟩
theorem LR.cons {E : Env} {x y : Value} {xs ys : List Value} (h : VR E x y) (hs : LR E xs ys) : LR E (x :: xs) (y :: ys) := by
  refine ⟨by simp [hs.1], fun k a b ha hb => ?_⟩
  cases k with
  | zero => simp at ha hb; subst ha; subst hb; exact h
  | succ k => simp at ha hb; exact hs.2 k a b ha hb
theorem LR.cons_inv {E : Env} {x : Value} {xs ys : List Value} (h : LR E (x :: xs) ys) : ∃ y ys', ys = y :: ys' ∧ VR E x y ∧ LR E xs ys' := by
  cases ys with
  | nil => have := h.1; simp at this
  | cons y ys =>
    refine ⟨y, ys, rfl, h.2 0 x y (by simp) (by simp), by have := h.1; simpa using this, fun k a b ha hb => h.2 (k + 1) a b (by simpa using ha) (by simpa using hb)⟩
theorem LR.nil_inv {E : Env} {ys : List Value} (h : LR E [] ys) : ys = [] := by
  cases ys with
  | nil => rfl
  | cons y ys => have := h.1; simp at this
theorem LR.append {E : Env} : ∀ {xs ys us vs : List Value}, LR E xs ys → LR E us vs → LR E (xs ++ us) (ys ++ vs)
  | [], ys, _, _, h, k => by rw [h.nil_inv]; exact k
  | x :: xs, ys, _, _, h, k => by
    obtain ⟨y, ys', rfl, h1, h2⟩ := h.cons_inv
    exact LR.cons h1 (LR.append h2 k)
theorem LR.get {E : Env} {xs ys : List Value} (h : LR E xs ys) {k : Nat} {x : Value} (hx : xs[k]? = some x) : ∃ y, ys[k]? = some y ∧ VR E x y := by
  have hk : k < ys.length := by rw [← h.1]; exact (List.getElem?_eq_some_iff.1 hx).1
  exact ⟨ys[k], by simp [hk], h.2 k x _ hx (by simp [hk])⟩
theorem LR.take {E : Env} {xs ys : List Value} (h : LR E xs ys) (n : Nat) : LR E (xs.take n) (ys.take n) := by
  refine ⟨by simp [h.1], fun k x y hx hy => ?_⟩
  rw [List.getElem?_take] at hx hy
  by_cases hk : k < n
  · simp only [hk, if_true] at hx hy; exact h.2 k x y hx hy
  · simp [hk] at hx
theorem LR.drop {E : Env} {xs ys : List Value} (h : LR E xs ys) (n : Nat) : LR E (xs.drop n) (ys.drop n) := by
  refine ⟨by simp [h.1], fun k x y hx hy => ?_⟩
  rw [List.getElem?_drop] at hx hy
  exact h.2 _ x y hx hy
theorem VR.agg_of {E : Env} {f f' : Array Value} (h : LR E f.toList f'.toList) : VR E (.agg f) (.agg f') := .agg h.1 h.2
theorem VR.tup_of {E : Env} {f f' : Array Value} (h : LR E f.toList f'.toList) : VR E (.tuple f) (.tuple f') := .tup h.1 h.2
theorem VR.cleanS {E : Env} {v : Value} (h : cleanS v = true) : VR E v v := by
  cases v with
  | bool b => exact .bool b
  | int k n => exact .int k n
  | string s => exact .str s
  | pointer a => cases a with
    | none => exact .nilP
    | some a => simp [Sx.cleanS] at h
  | slice a n c => cases a with
    | none =>
      simp only [Sx.cleanS, Bool.and_eq_true] at h
      rw [Nat.eq_of_beq_eq_true h.1, Nat.eq_of_beq_eq_true h.2]; exact .nilS
    | some a => simp [Sx.cleanS] at h
  | map a => cases a with
    | none => exact .nilM
    | some a => simp [Sx.cleanS] at h
  | nilFunc => exact .nilF
  | nilIface => exact .nilI
  | func g f c =>
    cases g <;> simp only [Sx.cleanS, Bool.false_eq_true, Bool.and_eq_true] at h
    have h1 := Nat.eq_of_beq_eq_true h.1
    have h2 := Nat.eq_of_beq_eq_true h.2
    have e1 : f = #[] := Array.eq_empty_of_size_eq_zero h1
    have e2 : c = #[] := Array.eq_empty_of_size_eq_zero h2
    subst e1; subst e2
    exact .fn rfl (fun k x y hx => by simp at hx) rfl (fun k x y hx => by simp at hx)
  | _ => simp [Sx.cleanS] at h
theorem LR.cleanL {E : Env} {xs : List Value} (h : xs.all cleanS = true) : LR E xs xs := by
  refine ⟨rfl, fun k x y hx hy => ?_⟩
  rw [hx] at hy; cases hy
  exact VR.cleanS (List.all_eq_true.1 h x (List.mem_of_getElem? hx))
theorem VR.clean {E : Env} {v : Value} (h : cleanB v = true) : VR E v v := by
  cases v with
  | agg cs => exact .agg_of (LR.cleanL h)
  | tuple cs => exact .tup_of (LR.cleanL h)
  | _ => exact VR.cleanS h
theorem VR.plainS {E : Env} {v v' : Value} (h : VR E v v') (hp : plainS v = true) : v' = v := by
  cases h <;> first | rfl | simp [Sx.plainS] at hp
theorem VR.plain {E : Env} {v v' : Value} (h : VR E v v') (hp : plainB v = true) : v' = v := by
  cases h with
  | agg hf h1 =>
    rename_i f f'
    have : f'.toList = f.toList := by
      apply List.ext_getElem? ; intro k
      cases hx : f.toList[k]? with
      | none =>
        have : f.toList.length ≤ k := List.getElem?_eq_none_iff.1 hx
        exact List.getElem?_eq_none (by omega)
      | some x =>
        have hk : k < f'.toList.length := by rw [← hf]; exact (List.getElem?_eq_some_iff.1 hx).1
        have hy : f'.toList[k]? = some f'.toList[k] := by simp
        rw [hy]
        exact congrArg some (VR.plainS (h1 k x _ hx hy) (List.all_eq_true.1 hp x (List.mem_of_getElem? hx)))
    exact congrArg Value.agg (Array.toList_inj.1 this)
  | _ => first | rfl | simp [Sx.plainB, Sx.plainS] at hp
theorem VR.oneB {E : Env} {v v' : Value} (h : VR E v v') : Sx.oneB v' = Sx.oneB v := by
  induction h with
  | sym k i h => subst h; exact oneB_plain (Den.plain i)
  | ssl k h hb ho hc hn hv => subst hv; rfl
  | opq i h ih => rw [ih, Den.one]; rfl
  | _ => rfl
theorem VR.cells {E : Env} {v v' : Value} (h : VR E v v') : LR E v.cells.toList v'.cells.toList := by
  cases h with
  | sym k i h =>
    subst h
    have hp := Den.plain i
    have hc : (Den.v i).cells = #[Den.v i] := by
      generalize Den.v i = u at hp
      cases u <;> first | rfl | (simp [Sx.plainS] at hp)
    rw [hc]; exact LR.cons (.sym k i rfl) (LR.nil E)
  | ssl k h hb ho hc hn hv => subst hv; exact LR.cons (.ssl k h hb ho hc hn rfl) (LR.nil E)
  | opq i h =>
    have ho := h.oneB
    rw [Den.one] at ho
    have hc : v'.cells = #[v'] := by cases v' <;> first | rfl | cases ho
    rw [hc]; exact LR.cons (.opq i h) (LR.nil E)
  | agg hf h1 => exact ⟨hf, h1⟩
  | fn hf h1 hc h2 => exact LR.cons (.fn hf h1 hc h2) (LR.nil E)
  | yl h => exact LR.cons (.yl h) (LR.nil E)
  | tup hf h1 => exact LR.cons (.tup hf h1) (LR.nil E)
  | sl h1 h2 h3 => exact LR.cons (.sl h1 h2 h3) (LR.nil E)
  | ptr h => exact LR.cons (.ptr h) (LR.nil E)
  | map h => exact LR.cons (.map h) (LR.nil E)
  | bool b => exact LR.cons (.bool b) (LR.nil E)
  | int k n => exact LR.cons (.int k n) (LR.nil E)
  | str s => exact LR.cons (.str s) (LR.nil E)
  | nilP => exact LR.cons .nilP (LR.nil E)
  | nilS => exact LR.cons .nilS (LR.nil E)
  | weS b => exact LR.cons (.weS b) (LR.nil E)
  | anS b c => exact LR.cons (.anS b c) (LR.nil E)
  | nilM => exact LR.cons .nilM (LR.nil E)
  | nilF => exact LR.cons .nilF (LR.nil E)
  | nilI => exact LR.cons .nilI (LR.nil E)
def OptR (E : Env) : Option Value → Option Value → Prop
  | none, y => y = none
  | some a, y => ∃ b, y = some b ∧ VR E a b
def AK.Ok (P : Program) : AK → Value → Prop
  | .bin op t a b, r => ∀ E a' b', VR E a a' → VR E b b' → ∀ (x y : Operand) w, ∃ r', VR E r r' ∧ (do eqGuard op t x y a' b'; binOp op t a' b' : Sem Value).run P w = .ok r' w
  | .un op a, r => ∀ E a', VR E a a' → ∀ w, ∃ r', VR E r r' ∧ (Op.unary op a').run P w = .ok r' w
  | .conv s d a, r => ∀ E a', VR E a a' → ∀ w, ∃ r', VR E r r' ∧ (convert s d a').run P w = .ok r' w
  | .ixa t x i, r => ∀ E x' i', VR E x x' → VR E i i' → ∀ w, ∃ r', VR E r r' ∧ (Instr.indexAt t x' i').run P w = .ok r' w
  | .fa t x i, r => ∀ E x', VR E x x' → ∀ w, ∃ r', VR E r r' ∧ (Instr.fieldAt t x' i).run P w = .ok r' w
  | .ix t x i, r => ∀ E x' i', VR E x x' → VR E i i' → ∀ w, ∃ r', VR E r r' ∧ (Instr.index t x' i').run P w = .ok r' w
  | .len t x, r => ∀ E x', VR E x x' → ∀ (ats : Array TypeId) (ty : TypeId) w, ats[0]? = some t → ∃ r', VR E r r' ∧ (Builtin.len_ ats ty #[x']).run P w = .ok r' w
  | .mm mx a b, r => ∀ E a' b', VR E a a' → VR E b b' → ∀ (ats : Array TypeId) (ty : TypeId) w, ∃ r', VR E r r' ∧ (if mx then Builtin.max_ ats ty #[a', b'] else Builtin.min_ ats ty #[a', b']).run P w = .ok r' w
  | .test _ i, r => r = Den.v i
  | .sli t x lo hi mx, r => ∀ E x' lo' hi' mx', VR E x x' → OptR E lo lo' → OptR E hi hi' → OptR E mx mx' → ∀ w, ∃ r', VR E r r' ∧ (Instr.sliceAt t x' lo' hi' mx').run P w = .ok r' w
end
end Go.Sx
namespace Go.Sx
structure Keeps (w0 : World) (F : Nat → Prop) (w : World) : Prop where
  os : w.os = w0.os
  tape : w.tape = w0.tape
  output : w.output = w0.output
  size : w0.heap.size ≤ w.heap.size
  block : ∀ k, k < w0.heap.size → ¬ F k → w.heap[k]? = w0.heap[k]?
inductive PR [Den] (E : Env) : List (Value × Value) → List MapEntry → Prop
  | nil : PR E [] []
  | cons {k v : Value} {e : MapEntry} {xs : List (Value × Value)} {ys : List MapEntry} (hk : VR E k e.key) (hv : VR E v e.val) (h : PR E xs ys) : PR E ((k, v) :: xs) (e :: ys)
theorem PR.mono [Den] {E E' : Env} (h : E.le E') {xs : List (Value × Value)} {ys : List MapEntry} (hp : PR E xs ys) : PR E' xs ys := by
  induction hp with
  | nil => exact .nil
  | cons hk hv _ ih => exact .cons (hk.mono h) (hv.mono h) ih
structure TR [Den] (E : Env) (f : Fr) (tmps : Array Value) : Prop where
  size : tmps.size = f.n
  val : ∀ k v, f.t.get k = some v → k < f.n ∧ VR E v (tmps.getD k undef)
theorem TR.mono [Den] {E E' : Env} {f : Fr} {tmps : Array Value} (h : TR E f tmps) (hle : E.le E') : TR E' f tmps := ⟨h.size, fun k v hk => ⟨(h.val k v hk).1, (h.val k v hk).2.mono hle⟩⟩
def writable : AObj → Bool
  | .dead => false
  | .row _ _ ro => !ro
  | .orow _ _ ro => !ro
  | .mrow _ _ ro => !ro
  | _ => true
def RowR [Den] (P : Program) (E : Env) (e : EI) (T : TypeId) (cs : Cells) (cells : Array Value) (ro : Bool := false) : Prop :=
  (ro = false → ∀ n, sizeB P T = some n → e.off + e.cap * n ≤ cells.size) ∧
  ∀ k v, cs.get k = some v → ∃ v', cells[e.off + k]? = some v' ∧ VR E v v' ∧ oneB v' = true
def CAt (w : World) (b : Nat) (T : TypeId) (cells : Array Value) : Bool → Prop
  | false => w.heap[b]? = some (.cells cells T (0, 0))
  | true => ∃ (T' : TypeId) (fz : Nat × Nat), w.heap[b]? = some (.cells cells T' fz)
theorem CAt.frz {w : World} {b : Nat} {T : TypeId} {cells : Array Value} {ro : Bool} (h : CAt w b T cells ro) : ∃ (T' : TypeId) (fz : Nat × Nat), w.heap[b]? = some (.cells cells T' fz) := by
  cases ro with
  | false => exact ⟨_, _, h⟩
  | true => exact h
theorem CAt.congr {w w' : World} {b : Nat} {T : TypeId} {cells : Array Value} {ro : Bool} (h : CAt w b T cells ro) (he : w'.heap[b]? = w.heap[b]?) : CAt w' b T cells ro := by
  cases ro with
  | false => exact he.trans h
  | true => obtain ⟨T', fz, h⟩ := h; exact ⟨T', fz, he.trans h⟩
theorem CAt.to {w : World} {b : Nat} {T : TypeId} {cells : Array Value} {ro ro' : Bool} (h : CAt w b T cells ro') (hr : ro = false → ro' = false) : CAt w b T cells ro := by
  cases ro with
  | false => rw [hr rfl] at h; exact h
  | true => exact h.frz
def ObjR [Den] (P : Program) (E : Env) (w : World) (i : Nat) : AObj → Prop
  | .row T cs ro => ∃ e cells, E i = some e ∧ CAt w e.blk T cells ro ∧ RowR P E e T cs cells ro
  | .map es => ∃ e ents clock, E i = some e ∧ w.heap[e.blk]? = some (.map ents clock) ∧ PR E es ents.toList
  | .loop st pe f ps a b d => ∃ e l, E i = some e ∧ w.heap[e.blk]? = some (.loop l) ∧ l.state = st ∧ l.pending = pe ∧ l.params.toList = ps ∧ l.assign = a ∧ l.body = b ∧ TR E f l.tmps ∧ ∃ ed, E d = some ed ∧ l.defers = ed.blk
  | .defd => ∃ e, E i = some e ∧ w.heap[e.blk]? = some (.deferred (some []))
  | .dead => True
  | .orow T j ro => ∃ e cells, E i = some e ∧ CAt w e.blk T cells ro ∧ (ro = false → ∀ n, sizeB P T = some n → e.off + e.cap * n ≤ cells.size) ∧ ∀ k v, (Den.row j)[k]? = some v → cells[e.off + k]? = some v
  | .mrow T j ro => (E i = none ∧ Den.row j = []) ∨ ∃ e cells, E i = some e ∧ CAt w e.blk T cells ro ∧ (ro = false → ∀ n, sizeB P T = some n → e.off + e.cap * n ≤ cells.size) ∧ ∀ k v, (Den.row j)[k]? = some v → cells[e.off + k]? = some v
structure HR [Den] (P : Program) (w0 : World) (F : Nat → Prop) (E : Env) (H : Heap) (w : World) : Prop where
  keeps : Keeps w0 F w
  dom : ∀ i e, E i = some e → H.get i ≠ none
  obj : ∀ i o, H.get i = some o → ObjR P E w i o
  inj : ∀ i j o p e e', i ≠ j → H.get i = some o → H.get j = some p → live o = true → live p = true → (writable o = true ∨ writable p = true) → E i = some e → E j = some e' → e.blk ≠ e'.blk
  own : ∀ i o e, H.get i = some o → writable o = true → E i = some e → w0.heap.size ≤ e.blk ∨ F e.blk
section
variable {P : Program} {w0 : World} {F : Nat → Prop} {E : Env} {H : Heap} {w : World}
theorem ObjR.mono [Den] {E E' : Env} (h : E.le E') {i : Nat} {o : AObj} (hn : E i = none → E' i = none) (ho : ObjR P E w i o) : ObjR P E' w i o := by
  cases o with
  | row T cs ro =>
    obtain ⟨e, cells, h1, h2, h3, h4⟩ := ho
    exact ⟨e, cells, h _ _ h1, h2, h3, fun k v hk => let ⟨v', a, b, c⟩ := h4 k v hk; ⟨v', a, b.mono h, c⟩⟩
  | map es =>
    obtain ⟨e, ents, clock, h1, h2, h3⟩ := ho
    exact ⟨e, ents, clock, h _ _ h1, h2, h3.mono h⟩
  | loop st pe f ps a b d =>
    obtain ⟨e, l, h1, h2, h3, h4, h5, h6, h7, h8, ed, h9, h10⟩ := ho
    exact ⟨e, l, h _ _ h1, h2, h3, h4, h5, h6, h7, h8.mono h, ed, h _ _ h9, h10⟩
  | defd =>
    obtain ⟨e, h1, h2⟩ := ho
    exact ⟨e, h _ _ h1, h2⟩
  | dead => trivial
  | orow T j ro =>
    obtain ⟨e, cells, h1, h2⟩ := ho
    exact ⟨e, cells, h _ _ h1, h2⟩
  | mrow T j ro =>
    rcases ho with ⟨h1, h2⟩ | ⟨e, cells, h1, h2⟩
    · exact .inl ⟨hn h1, h2⟩
    · exact .inr ⟨e, cells, h _ _ h1, h2⟩
theorem HR.blk_lt [Den] (hr : HR P w0 F E H w) {i : Nat} {o : AObj} {e : EI} (hi : H.get i = some o) (hl : live o = true) (he : E i = some e) : e.blk < w.heap.size := by
  have hb : w.heap[e.blk]? ≠ none := by
    have := hr.obj i o hi
    cases o with
    | row T cs ro => obtain ⟨e', c, h1, h2, _⟩ := this; rw [he] at h1; cases h1; obtain ⟨_, fz, h2⟩ := h2.frz; rw [h2]; simp
    | map es => obtain ⟨e', c, k, h1, h2, _⟩ := this; rw [he] at h1; cases h1; rw [h2]; simp
    | loop st pe f ps a b d => obtain ⟨e', l, h1, h2, _⟩ := this; rw [he] at h1; cases h1; rw [h2]; simp
    | defd => obtain ⟨e', h1, h2⟩ := this; rw [he] at h1; cases h1; rw [h2]; simp
    | orow T j ro => obtain ⟨e', c, h1, h2, _⟩ := this; rw [he] at h1; cases h1; obtain ⟨_, fz, h2⟩ := h2.frz; rw [h2]; simp
    | mrow T j ro =>
      rcases this with ⟨h1, _⟩ | ⟨e', c, h1, h2, _⟩
      · rw [he] at h1; cases h1
      · rw [he] at h1; cases h1; obtain ⟨_, fz, h2⟩ := h2.frz; rw [h2]; simp
    | dead => simp [live] at hl
  rcases Nat.lt_or_ge e.blk w.heap.size with h | h
  · exact h
  · exact absurd (Array.getElem?_eq_none h) hb
theorem HR.heap [Den] (hr : HR P w0 F E H w) {w' : World} (h : w'.heap = w.heap) (h1 : w'.os = w.os) (h2 : w'.tape = w.tape) (h3 : w'.output = w.output) : HR P w0 F E H w' := by
  refine ⟨⟨h1.trans hr.keeps.os, h2.trans hr.keeps.tape, h3.trans hr.keeps.output, by rw [h]; exact hr.keeps.size, by rw [h]; exact hr.keeps.block⟩, hr.dom, fun i o hi => ?_, hr.inj, hr.own⟩
  have hc : ∀ b T cells ro, CAt w' b T cells ro = CAt w b T cells ro := fun b T cells ro => by cases ro <;> simp only [CAt, h]
  have := hr.obj i o hi
  cases o <;> simp only [ObjR, hc, h] at * <;> exact this
theorem HR.drew [Den] (hr : HR P w0 F E H w) (n : Nat) : HR P w0 F E H { w with drawn := n } := hr.heap rfl rfl rfl rfl
theorem rd_inv {i k c : Nat} {v : Value} {c' : Nat} {H' : Heap} {L : Lg} (h : rd i k c H = .ok v c' H' L) : c' = c ∧ H' = H ∧ L = .one (.cell i k false) ∧ ∃ T cs ro, H.get i = some (.row T cs ro) ∧ cs.get k = some v := by
  unfold rd at h
  split at h
  · rename_i T cs ro hi
    split at h
    · rename_i u hk; cases h; exact ⟨rfl, rfl, rfl, T, cs, ro, hi, hk⟩
    · cases h
  · cases h
theorem cell_of_row {cells : Array Value} {T : TypeId} {fz : Nat × Nat} {b k : Nat} {v : Value} (h : w.heap[b]? = some (.cells cells T fz)) (hk : cells[k]? = some v) : w.cell? ⟨b, k, none⟩ = some v := by
  simp [World.cell?, h, hk]
theorem frozen_of_row {cells : Array Value} {T : TypeId} {b k : Nat} (h : w.heap[b]? = some (.cells cells T (0, 0))) : w.frozen? ⟨b, k, none⟩ = false := by
  simp [World.frozen?, h]
theorem rd_sound [Den] (hr : HR P w0 F E H w) {i k c : Nat} {v : Value} {c' : Nat} {H' : Heap} {L : Lg} (h : rd i k c H = .ok v c' H' L) {e : EI} (he : E i = some e) :
    ∃ v', w.cell? ⟨e.blk, e.off + k, none⟩ = some v' ∧ VR E v v' ∧ oneB v' = true := by
  obtain ⟨_, _, _, T, cs, ro, hi, hk⟩ := rd_inv h
  obtain ⟨e', cells, h1, h2, _, h4⟩ := hr.obj i _ hi
  rw [he] at h1; cases h1
  obtain ⟨v', a, b, d⟩ := h4 k v hk
  obtain ⟨_, fz, h2⟩ := h2.frz
  exact ⟨v', cell_of_row h2 a, b, d⟩
theorem heap_setCell_row {cells : Array Value} {T : TypeId} {fz : Nat × Nat} {b k : Nat} {v : Value} (h : w.heap[b]? = some (.cells cells T fz)) :
    (w.setCell ⟨b, k, none⟩ v).heap[b]? = some (.cells (cells.setIfInBounds k v) T fz) := by
  simp [World.setCell, Array.getElem?_modify, h]
theorem heap_setCell_ne {b k c : Nat} {v : Value} (h : b ≠ c) : (w.setCell ⟨b, k, none⟩ v).heap[c]? = w.heap[c]? := by
  simp [World.setCell, Array.getElem?_modify, h]
theorem size_setCell (a : Addr) (v : Value) : (w.setCell a v).heap.size = w.heap.size := by simp [World.setCell]
theorem wr_inv {i k c : Nat} {v : Value} {c' : Nat} {H' : Heap} {L : Lg} (h : wr i k v c H = .ok () c' H' L) : c' = c ∧ L = .app (.one (.info i)) (.one (.cell i k true)) ∧ oneB v = true ∧ ∃ T cs u, H.get i = some (.row T cs false) ∧ cs.get k = some u ∧ H' = H.set i (.row T (cs.set k v) false) := by
  unfold wr at h
  split at h
  · rename_i T cs hi
    split at h
    · rename_i u hk
      cases ho : oneB v with
      | true => rw [ho] at h; simp only [cond_true] at h; cases h; exact ⟨rfl, rfl, rfl, T, cs, u, hi, hk, rfl⟩
      | false => rw [ho] at h; simp at h
    · cases h
  · cases h
theorem HR.turn [Den] (hr : HR P w0 F E H w) {i : Nat} {o o' : AObj} {e : EI} {w' : World} (hi : H.get i = some o) (hl : live o = true) (hwr : writable o = true) (he : E i = some e)
    (hk : w'.os = w.os) (hk2 : w'.tape = w.tape) (hk3 : w'.output = w.output) (hs : w'.heap.size = w.heap.size) (hb : ∀ b, b ≠ e.blk → w'.heap[b]? = w.heap[b]?) (ho : ObjR P E w' i o') :
    HR P w0 F E (H.set i o') w' := by
  refine ⟨⟨hk.trans hr.keeps.os, hk2.trans hr.keeps.tape, hk3.trans hr.keeps.output, by rw [hs]; exact hr.keeps.size, fun k hlt hF => ?_⟩, fun j x hj => ?_, fun j p hj => ?_, fun j m p q x y hne hj hm hlp hlq hw hx hy => ?_, fun j p x hj hw hx => ?_⟩
  · have hne : k ≠ e.blk := fun hke => by
      rcases hr.own i o e hi hwr he with h | h
      · omega
      · exact hF (hke ▸ h)
    rw [hb k hne]; exact hr.keeps.block k hlt hF
  · by_cases hji : j = i
    · subst hji; rw [Tr.get_set_self]; simp
    · rw [Tr.get_set_ne _ _ hji]; exact hr.dom j x hj
  · by_cases hji : j = i
    · subst hji; rw [Tr.get_set_self] at hj; cases hj; exact ho
    · rw [Tr.get_set_ne _ _ hji] at hj
      have hq := hr.obj j p hj
      cases p with
      | row T cs ro =>
        obtain ⟨x, cells, h1, h2, h3⟩ := hq
        exact ⟨x, cells, h1, h2.congr (hb _ (hr.inj j i _ _ x e hji hj hi rfl hl (.inr hwr) h1 he)), h3⟩
      | map es =>
        obtain ⟨x, ents, clock, h1, h2, h3⟩ := hq
        exact ⟨x, ents, clock, h1, by rw [hb _ (hr.inj j i _ _ x e hji hj hi rfl hl (.inr hwr) h1 he)]; exact h2, h3⟩
      | loop st pe f ps a b d =>
        obtain ⟨x, l, h1, h2, h3⟩ := hq
        exact ⟨x, l, h1, by rw [hb _ (hr.inj j i _ _ x e hji hj hi rfl hl (.inr hwr) h1 he)]; exact h2, h3⟩
      | defd =>
        obtain ⟨x, h1, h2⟩ := hq
        exact ⟨x, h1, by rw [hb _ (hr.inj j i _ _ x e hji hj hi rfl hl (.inr hwr) h1 he)]; exact h2⟩
      | dead => trivial
      | orow T j ro =>
        obtain ⟨x, cells, h1, h2, h3⟩ := hq
        exact ⟨x, cells, h1, h2.congr (hb _ (hr.inj _ i _ _ x e hji hj hi rfl hl (.inr hwr) h1 he)), h3⟩
      | mrow T j ro =>
        rcases hq with hq | ⟨x, cells, h1, h2, h3⟩
        · exact .inl hq
        · exact .inr ⟨x, cells, h1, h2.congr (hb _ (hr.inj _ i _ _ x e hji hj hi rfl hl (.inr hwr) h1 he)), h3⟩
  · by_cases hji : j = i
    · subst hji
      have hmi : m ≠ j := fun h => hne h.symm
      rw [Tr.get_set_ne _ _ hmi] at hm
      exact hr.inj j m o q x y hne hi hm hl hlq (.inl hwr) hx hy
    · rw [Tr.get_set_ne _ _ hji] at hj
      by_cases hmi : m = i
      · subst hmi
        exact hr.inj j m p o x y hne hj hi hlp hl (.inr hwr) hx hy
      · rw [Tr.get_set_ne _ _ hmi] at hm
        exact hr.inj j m p q x y hne hj hm hlp hlq hw hx hy
  · by_cases hji : j = i
    · subst hji; exact hr.own j o x hi hwr hx
    · rw [Tr.get_set_ne _ _ hji] at hj; exact hr.own j p x hj hw hx
theorem wr_sound [Den] (hr : HR P w0 F E H w) {i k c : Nat} {v v' : Value} {c' : Nat} {H' : Heap} {L : Lg} (h : wr i k v c H = .ok () c' H' L) {e : EI} (he : E i = some e) (hv : VR E v v') :
    (∃ u, w.cell? ⟨e.blk, e.off + k, none⟩ = some u) ∧ w.frozen? ⟨e.blk, e.off + k, none⟩ = false ∧ HR P w0 F E H' (w.setCell ⟨e.blk, e.off + k, none⟩ v') := by
  obtain ⟨_, _, ho, T, cs, u, hi, hk, rfl⟩ := wr_inv h
  obtain ⟨e', cells, h1, h2, h3, h4⟩ := hr.obj i _ hi
  rw [he] at h1; cases h1
  obtain ⟨u', a, b, d⟩ := h4 k u hk
  refine ⟨⟨u', cell_of_row h2 a⟩, frozen_of_row h2, ?_⟩
  refine hr.turn hi rfl rfl he rfl rfl rfl (size_setCell _ _) (fun b hb => heap_setCell_ne (Ne.symm hb)) ⟨e, _, he, heap_setCell_row h2, fun hq n hn => by simpa using h3 hq n hn, fun j x hj => ?_⟩
  rw [Cells.get_set hk] at hj
  by_cases hjk : j = k
  · subst hjk
    simp only [if_true, Option.some.injEq] at hj
    subst hj
    refine ⟨v', ?_, hv, by rw [hv.oneB]; exact ho⟩
    have hlt : e.off + j < cells.size := (Array.getElem?_eq_some_iff.1 a).1
    simp [hlt]
  · simp only [hjk, if_false] at hj
    obtain ⟨x', a', b', d'⟩ := h4 j x hj
    refine ⟨x', ?_, b', d'⟩
    rw [Array.getElem?_setIfInBounds_ne (by omega)]; exact a'
theorem newA_inv {o : AObj} {c j c' : Nat} {H' : Heap} {L : Lg} (h : newA o c H = .ok j c' H' L) : j = c ∧ c' = c + 1 ∧ H.get c = none ∧ H' = H.set c o ∧ L = .one (.row c true) := by
  unfold newA at h
  split at h
  · rename_i hn; cases h; exact ⟨rfl, rfl, hn, rfl, rfl⟩
  · cases h
theorem HR.fresh [Den] (hr : HR P w0 F E H w) {j : Nat} {o : AObj} {b : Obj} {cap : Nat} (hj : H.get j = none)
    (ho : ∀ w', w'.heap = w.heap.push b → ObjR P (E.upd j ⟨w.heap.size, 0, cap⟩) w' j o) :
    E.le (E.upd j ⟨w.heap.size, 0, cap⟩) ∧ HR P w0 F (E.upd j ⟨w.heap.size, 0, cap⟩) (H.set j o) { w with heap := w.heap.push b } := by
  have hE : E j = none := by
    cases h : E j with
    | none => rfl
    | some e => exact absurd hj (hr.dom j e h)
  have hle := Env.le_upd (e := ⟨w.heap.size, 0, cap⟩) hE
  have hold : ∀ k, k < w.heap.size → (w.heap.push b)[k]? = w.heap[k]? := fun k hk => by rw [Array.getElem?_push, if_neg (by omega)]
  refine ⟨hle, ⟨⟨hr.keeps.os, hr.keeps.tape, hr.keeps.output, ?_, fun k hk hF => ?_⟩, fun i e hi => ?_, fun i p hi => ?_, fun i m p q x y hne hi hm hlp hlq hw hx hy => ?_, fun i p x hi hw hx => ?_⟩⟩
  · have := hr.keeps.size; simp; omega
  · have := hr.keeps.size
    show (w.heap.push b)[k]? = _
    rw [hold k (by omega)]; exact hr.keeps.block k hk hF
  · by_cases hij : i = j
    · subst hij; rw [Tr.get_set_self]; simp
    · rw [Tr.get_set_ne _ _ hij]
      simp only [Env.upd, hij, if_false] at hi
      exact hr.dom i e hi
  · by_cases hij : i = j
    · subst hij; rw [Tr.get_set_self] at hi; cases hi; exact ho _ rfl
    · rw [Tr.get_set_ne _ _ hij] at hi
      have hq := hr.obj i p hi
      have hun : E.upd j ⟨w.heap.size, 0, cap⟩ i = E i := by unfold Env.upd; rw [if_neg hij]
      have hq' := ObjR.mono hle (fun hn => hun.trans hn) hq
      cases p with
      | row T cs ro =>
        obtain ⟨x, cells, h1, h2, h3⟩ := hq
        have hlt := hr.blk_lt hi rfl h1
        obtain ⟨x', cells', k1, k2, k3⟩ := hq'
        have : E.upd j ⟨w.heap.size, 0, cap⟩ i = some x := hle _ _ h1
        rw [this] at k1; cases k1
        exact ⟨x, cells', this, k2.congr (by show (w.heap.push b)[x.blk]? = _; rw [hold _ hlt]), k3⟩
      | map es =>
        obtain ⟨x, ents, clock, h1, h2, h3⟩ := hq
        have hlt := hr.blk_lt hi rfl h1
        exact ⟨x, ents, clock, hle _ _ h1, by show (w.heap.push b)[x.blk]? = _; rw [hold _ hlt]; exact h2, h3.mono hle⟩
      | loop st pe f ps a d dd =>
        obtain ⟨x, l, h1, h2, h3, h4, h5, h6, h7, h8, ed, h9, h10⟩ := hq
        have hlt := hr.blk_lt hi rfl h1
        exact ⟨x, l, hle _ _ h1, by show (w.heap.push b)[x.blk]? = _; rw [hold _ hlt]; exact h2, h3, h4, h5, h6, h7, h8.mono hle, ed, hle _ _ h9, h10⟩
      | defd =>
        obtain ⟨x, h1, h2⟩ := hq
        have hlt := hr.blk_lt hi rfl h1
        exact ⟨x, hle _ _ h1, by show (w.heap.push b)[x.blk]? = _; rw [hold _ hlt]; exact h2⟩
      | orow T j ro =>
        obtain ⟨x, cells, h1, h2, h3⟩ := hq
        have hlt := hr.blk_lt hi rfl h1
        obtain ⟨x', cells', k1, k2, k3⟩ := hq'
        have : E.upd _ ⟨w.heap.size, 0, cap⟩ i = some x := hle _ _ h1
        rw [this] at k1; cases k1
        exact ⟨x, cells', this, k2.congr (by show (w.heap.push b)[x.blk]? = _; rw [hold _ hlt]), k3⟩
      | mrow T2 j2 ro =>
        rcases hq with ⟨h1, h2⟩ | ⟨x, cells, h1, h2, h3⟩
        · exact .inl ⟨hun.trans h1, h2⟩
        · have hlt := hr.blk_lt hi rfl h1
          exact .inr ⟨x, cells, hun.trans h1, h2.congr (by show (w.heap.push b)[x.blk]? = _; rw [hold _ hlt]), h3⟩
      | dead => trivial
  · have hs : ∀ k x, E.upd j ⟨w.heap.size, 0, cap⟩ k = some x → (k = j ∧ x = ⟨w.heap.size, 0, cap⟩) ∨ (k ≠ j ∧ E k = some x) := fun k x hk => by
      unfold Env.upd at hk
      by_cases hkj : k = j
      · simp [hkj] at hk; exact .inl ⟨hkj, hk.symm⟩
      · simp [hkj] at hk; exact .inr ⟨hkj, hk⟩
    rcases hs i x hx with ⟨rfl, rfl⟩ | ⟨h1, h2⟩ <;> rcases hs m y hy with ⟨rfl, rfl⟩ | ⟨h3, h4⟩
    · exact absurd rfl hne
    · rw [Tr.get_set_ne _ _ h3] at hm
      have := hr.blk_lt hm hlq h4
      simp; omega
    · rw [Tr.get_set_ne _ _ h1] at hi
      have := hr.blk_lt hi hlp h2
      simp; omega
    · rw [Tr.get_set_ne _ _ h1] at hi
      rw [Tr.get_set_ne _ _ h3] at hm
      exact hr.inj i m p q x y hne hi hm hlp hlq hw h2 h4
  · by_cases hij : i = j
    · subst hij
      simp only [Env.upd, if_true, Option.some.injEq] at hx
      subst hx; exact .inl hr.keeps.size
    · rw [Tr.get_set_ne _ _ hij] at hi
      simp only [Env.upd, hij, if_false] at hx
      exact hr.own i p x hi hw hx
theorem HR.newRow [Den] (hr : HR P w0 F E H w) {j : Nat} {T : TypeId} {cs cs' : List Value} {more : List Value} {cap : Nat} (hj : H.get j = none) (hc : LR E cs cs') (h1 : cs.all oneB = true)
    (hcap : ∀ n, sizeB P T = some n → cap * n ≤ (cs' ++ more).length) :
    E.le (E.upd j ⟨w.heap.size, 0, cap⟩) ∧ HR P w0 F (E.upd j ⟨w.heap.size, 0, cap⟩) (H.set j (.row T (mkCells cs) false)) { w with heap := w.heap.push (.cells (cs' ++ more).toArray T (0, 0)) } := by
  have hE : E j = none := by
    cases h : E j with
    | none => rfl
    | some e => exact absurd hj (hr.dom j e h)
  have hle := Env.le_upd (e := ⟨w.heap.size, 0, cap⟩) hE
  refine hr.fresh hj fun w' hw' => ⟨_, (cs' ++ more).toArray, by simp [Env.upd]; rfl, (by show w'.heap[w.heap.size]? = _; rw [hw']; simp), fun _ n hn => by simpa using hcap n hn, fun k v hk => ?_⟩
  rw [mkCells_get] at hk
  obtain ⟨y, hy, hv⟩ := hc.get hk
  refine ⟨y, ?_, hv.mono hle, ?_⟩
  · have hlt : k < cs'.length := (List.getElem?_eq_some_iff.1 hy).1
    simp only [Nat.zero_add, List.getElem?_toArray]
    rw [List.getElem?_append_left hlt]; exact hy
  · rw [hv.oneB]; exact List.all_eq_true.1 h1 v (List.mem_of_getElem? hk)
theorem HR.recell [Den] {j : Nat} {T : TypeId} {C C' : Cells} {b : Bool} {H : Heap} (hr : HR P w0 F E (H.set j (.row T C b)) w) (hg : ∀ k, C'.get k = C.get k) : HR P w0 F E (H.set j (.row T C' b)) w := by
  have key : ∀ i o, (H.set j (.row T C' b)).get i = some o → ∃ o', (H.set j (.row T C b)).get i = some o' ∧ live o' = live o ∧ writable o' = writable o ∧ (ObjR P E w i o' → ObjR P E w i o) := by
    intro i o ho
    rw [Tr.get_set] at ho
    by_cases hi : i = j
    · subst hi
      rw [if_pos rfl] at ho
      cases ho
      refine ⟨_, Tr.get_set_self _ _ _, rfl, rfl, fun ⟨e, cells, h1, h2, h3, h4⟩ => ⟨e, cells, h1, h2, h3, fun k v hk => h4 k v (by rw [← hg k]; exact hk)⟩⟩
    · rw [if_neg hi] at ho
      exact ⟨o, by rw [Tr.get_set_ne _ _ hi]; exact ho, rfl, rfl, fun h => h⟩
  refine ⟨hr.keeps, fun i e he => ?_, fun i o ho => ?_, fun i m o p e e' hne ho hp hlo hlp hw he he' => ?_, fun i o e ho hw he => ?_⟩
  · have := hr.dom i e he
    rw [Tr.get_set] at this ⊢
    split
    · simp
    · rename_i h; rw [if_neg h] at this; exact this
  · obtain ⟨o', h1, _, _, h4⟩ := key i o ho
    exact h4 (hr.obj i o' h1)
  · obtain ⟨o', h1, h2, h3, _⟩ := key i o ho
    obtain ⟨p', g1, g2, g3, _⟩ := key m p hp
    exact hr.inj i m o' p' e e' hne h1 g1 (h2 ▸ hlo) (g2 ▸ hlp) (by rw [h3, g3]; exact hw) he he'
  · obtain ⟨o', h1, h2, h3, _⟩ := key i o ho
    exact hr.own i o' e h1 (h3 ▸ hw) he
end
def LdE.Ok [Den] (P : Program) (e : LdE) : Prop := ∀ (w0 : World) (F : Nat → Prop) (E : Env) (H : Heap) (w : World) (T : TypeId) (ro : Bool) (a' : Value), HR P w0 F E H w → (H.get e.id = some (.orow T e.j ro) ∨ H.get e.id = some (.mrow T e.j ro)) → VR E (.chan (some e.k)) a' →
  ∃ v', (Instr.loadAt e.t a').run P w = .ok v' w ∧ VR E e.v v'
def AppOk1 [Den] (P : Program) (ats : List TypeId) (e : Entry) : Prop := ∀ (w0 : World) (F : Nat → Prop) (E : Env) (H : Heap) (w : World) (c' : Nat) (v : Value) (H' : Heap) (L : Lg) (args' : List Value) (ty : TypeId) (at' : Array TypeId), runE e e.c H = .ok v c' H' L → HR P w0 F E H w → LR E e.args args' → at'.toList = ats →
  ∃ v' w' E', (Builtin.append_ at' ty args'.toArray).run P w = .ok v' w' ∧ E.le E' ∧ HR P w0 F E' H' w' ∧ VR E' v v'
def LdOk1 [Den] (P : Program) (t : TypeId) (e : Entry) : Prop := ∀ (w0 : World) (F : Nat → Prop) (E : Env) (H : Heap) (w : World) (c' : Nat) (v : Value) (H' : Heap) (L : Lg) (args' : List Value), runE e e.c H = .ok v c' H' L → HR P w0 F E H w → LR E e.args args' →
  ∀ a', args' = [a'] → ∃ v', (Instr.loadAt t a').run P w = .ok v' w ∧ ∃ E', E.le E' ∧ HR P w0 F E' H' w ∧ VR E' v v'
def StOk1 [Den] (P : Program) (t : TypeId) (e : Entry) : Prop := ∀ (w0 : World) (F : Nat → Prop) (E : Env) (H : Heap) (w : World) (c' : Nat) (v : Value) (H' : Heap) (L : Lg) (args' : List Value), runE e e.c H = .ok v c' H' L → HR P w0 F E H w → LR E e.args args' →
  ∀ a' v', args' = [a', v'] → ∃ w', (Instr.storeAt t a' v').run P w = .ok () w' ∧ ∃ E', E.le E' ∧ HR P w0 F E' H' w'
def MkOk1 [Den] (P : Program) (t : TypeId) (e : Entry) : Prop := ∀ (w0 : World) (F : Nat → Prop) (E : Env) (H : Heap) (w : World) (c' : Nat) (v : Value) (H' : Heap) (L : Lg) (args' : List Value), runE e e.c H = .ok v c' H' L → HR P w0 F E H w → LR E e.args args' →
  ∀ a' b', args' = [a', b'] → ∃ v' w' E', (Instr.makeSlice t a' b').run P w = .ok v' w' ∧ E.le E' ∧ HR P w0 F E' H' w' ∧ VR E' v v'
def CpOk1 [Den] (P : Program) (ats : List TypeId) (e : Entry) : Prop := ∀ (w0 : World) (F : Nat → Prop) (E : Env) (H : Heap) (w : World) (c' : Nat) (v : Value) (H' : Heap) (L : Lg) (args' : List Value) (ty : TypeId) (at' : Array TypeId), runE e e.c H = .ok v c' H' L → HR P w0 F E H w → LR E e.args args' → at'.toList = ats →
  ∃ v' w' E', (Builtin.copy_ at' ty args'.toArray).run P w = .ok v' w' ∧ E.le E' ∧ HR P w0 F E' H' w' ∧ VR E' v v'
def SaOk1 [Den] (P : Program) (t : TypeId) (e : Entry) : Prop := ∀ (w0 : World) (F : Nat → Prop) (E : Env) (H : Heap) (w : World) (c' : Nat) (v : Value) (H' : Heap) (L : Lg) (args' : List Value), runE e e.c H = .ok v c' H' L → HR P w0 F E H w → LR E e.args args' →
  ∀ a', args' = [a'] → ∃ v', (Instr.arrayAt t a').run P w = .ok v' w ∧ ∃ E', E.le E' ∧ HR P w0 F E' H' w ∧ VR E' v v'
def AppOk [Den] (P : Program) (ats : List TypeId) (e : Entry) : Prop := (ats.any (Nat.ble 1000000) = false → AppOk1 P ats e) ∧ (∀ t, ats = [t, 1000000] → LdOk1 P t e) ∧ (∀ t, ats = [t, 1000001] → StOk1 P t e) ∧ (∀ t, ats = [t, 1000002] → MkOk1 P t e) ∧ (∀ l, ats = l ++ [1000003] → CpOk1 P l e) ∧ (∀ t, ats = [t, 1000004] → SaOk1 P t e)
class AsmOK [Den] (P : Program) [Asm] : Prop where
  ok : ∀ k v, asmGet k = some v → k.Ok P v
  ld : ∀ e ∈ Asm.lds, e.Ok P
  app : ∀ p ∈ Asm.apps, AppOk P p.1 p.2
theorem truth_sound [Den] {P : Program} [Asm] [AsmOK P] {E : Env} {v v' : Value} {b : Bool} (h : truth v = some b) (hv : VR E v v') : v' = .bool b := by
  unfold truth at h
  split at h
  · cases h; cases hv; rfl
  · split at h
    · rename_i hk
      cases h
      have : Value.bool b = Den.v _ := AsmOK.ok (P := P) _ _ hk
      cases hv with
      | sym k i hh => rw [hh, ← this]
    · cases h
  · cases h
end Go.Sx

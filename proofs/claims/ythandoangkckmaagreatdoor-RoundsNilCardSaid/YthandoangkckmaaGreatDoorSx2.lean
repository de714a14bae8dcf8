import Derived.Test.YthandoangkckmaaGreatDoorSx1
namespace Go.Sx
noncomputable section

/-! ## Primitives -/
def rd (i k : Nat) : M Value := fun c h => match h.get i with
  | some (.row _ cs _) => (match cs.get k with
    | some v => .ok v c h (.one (.cell i k false))
    | none => .bad 101)
  | _ => .bad 102
def oneB : Value → Bool
  | .agg _ => false
  | .tuple _ => false
  | _ => true
def wr (i k : Nat) (v : Value) : M Unit := fun c h => match h.get i with
  | some (.row T cs false) => (match cs.get k with
    | some _ => bif oneB v then .ok () c (h.set i (.row T (cs.set k v) false)) (.app (.one (.info i)) (.one (.cell i k true))) else .bad 105
    | none => .bad 103)
  | _ => .bad 104
def info (i : Nat) : M (TypeId × Nat × Bool) := fun c h => match h.get i with
  | some (.row T cs ro) => .ok (T, cs.len, ro) c h (.one (.info i))
  | _ => .bad 106
def newA (o : AObj) : M Nat := fun c h => match h.get c with
  | none => .ok c (c + 1) (h.set c o) (.one (.row c true))
  | some _ => .bad 107
def killA (i : Nat) : M Unit := fun c h => match h.get i with
  | some (.row _ _ false) => .ok () c (h.set i .dead) (.one (.row i true))
  | _ => .bad 108
/-- A row grows: it is taken over by a new one. -/
def growA (i : Nat) (T : TypeId) (new : List Value) : M Nat := fun c h => match h.get i with
  | some (.row T' cs false) => (match h.get c with
    | none => bif Nat.beq T' T then .ok c (c + 1) ((h.set i .dead).set c (.row T (cs.app new) false)) (.app (.one (.row i true)) (.one (.row c true))) else .bad 114
    | some _ => .bad 115)
  | _ => .bad 116
structure MpA where
  es : List (Value × Value)
  bs : List Nat
  clk : Nat
def mapGet (i : Nat) : M MpA := fun c h => match h.get i with
  | some (.map es bs clk) => .ok ⟨es, bs, clk⟩ c h (.one (.info i))
  | _ => .bad 109
def mapSet (i : Nat) (es : List (Value × Value)) (bs : List Nat) (clk : Nat) : M Unit := fun c h => match h.get i with
  | some (.map _ _ _) => .ok () c (h.set i (.map es bs clk)) (.one (.row i true))
  | _ => .bad 110
structure ItA where
  m : Option Nat
  since : Nat
  seen : List Nat
  last : Nat
def iterGet (i : Nat) : M ItA := fun c h => match h.get i with
  | some (.iter m since seen last) => .ok ⟨m, since, seen, last⟩ c h (.one (.info i))
  | _ => .bad 117
def iterSet (i : Nat) (m : Option Nat) (since : Nat) (seen : List Nat) (last : Nat) : M Unit := fun c h => match h.get i with
  | some (.iter _ _ _ _) => .ok () c (h.set i (.iter m since seen last)) (.one (.row i true))
  | _ => .bad 118
def optM {α : Type} (why : Nat) : Option α → M α
  | some a => M.pure a
  | none => M.bad why
def guardM (why : Nat) (b : Bool) : M Unit := bif b then M.pure () else M.bad why

def rdN (i o : Nat) : Nat → M (List Value)
  | 0 => M.pure []
  | n + 1 => M.bind (rd i o) fun v => M.bind (rdN i (o + 1) n) fun vs => M.pure (v :: vs)
def wrN (i o : Nat) : List Value → M Unit
  | [] => M.pure ()
  | v :: vs => M.bind (wr i o v) fun _ => wrN i (o + 1) vs

def lgR (i : Nat) : Nat → Nat → Lg
  | _, 0 => .nil
  | o, n + 1 => .app (.one (.cell i o false)) (.app (lgR i (o + 1) n) .nil)
def lgW (i : Nat) : Nat → Nat → Lg
  | _, 0 => .nil
  | o, n + 1 => .app (.app (.one (.info i)) (.one (.cell i o true))) (lgW i (o + 1) n)
/-- 'rdN', at once. -/
def rdB (i o n : Nat) : M (List Value) := fun c h => match h.get i with
  | some (.row _ cs _) => (match cs.ext o n with
    | some vs => .ok vs c h (lgR i o n)
    | none => rdN i o n c h)
  | _ => rdN i o n c h
/-- 'wrN', at once. -/
def wrB (i o : Nat) (vs : List Value) : M Unit := fun c h => match vs with
  | [] => .ok () c h .nil
  | _ :: _ => (match h.get i with
    | some (.row T cs false) => bif vs.all oneB then (match cs.put o vs with
      | some cs' => .ok () c (h.set i (.row T cs' false)) (lgW i o vs.length)
      | none => wrN i o vs c h) else wrN i o vs c h
    | _ => wrN i o vs c h)

/-! ## Loops over functions -/
structure LpA where
  st : LoopState
  pend : Option Code
  f : Fr
  ps : List Tmp
  assign : Code
  body : Code
  dfr : Nat
def lpGet (i : Nat) : M LpA := fun c h => match h.get i with
  | some (.loop st pe f ps a b d) => .ok ⟨st, pe, f, ps, a, b, d⟩ c h (.one (.info i))
  | _ => .bad 111
def lpSet (i : Nat) (st : LoopState) (pe : Option Code) : M Unit := fun c h => match h.get i with
  | some (.loop _ _ f ps a b d) => .ok () c (h.set i (.loop st pe f ps a b d)) (.one (.row i true))
  | _ => .bad 112
/-- The mark is come to: the block is shut. -/
def takeA (i : Nat) : M Unit := fun c h => match h.get i with
  | some .defd => .ok () c (h.set i .dead) (.one (.row i true))
  | _ => .bad 113

/-! ## Types -/
def aggB (P : Program) (t : TypeId) : Option Bool := match P.underlying t with
  | some (.struct _) => some true
  | some (.array _ _) => some true
  | some _ => some false
  | none => none
def sizeB (P : Program) (t : TypeId) : Option Nat := match P.info? t with
  | some i => some i.size
  | none => none
def zeroB (P : Program) (t : TypeId) : Option Value := match P.info? t with
  | some i => i.zero
  | none => none
def sliceElem (P : Program) (t : TypeId) : Option TypeId := match P.underlying t with
  | some (.slice e) => some e
  | _ => none

/-! ## Values without an address -/
def cleanS : Value → Bool
  | .bool _ => true
  | .int _ _ => true
  | .string _ => true
  | .pointer none => true
  | .slice none n c => Nat.beq n 0 && Nat.beq c 0
  | .map none => true
  | .nilFunc => true
  | .nilIface => true
  | .func (.func _) f c => Nat.beq f.size 0 && Nat.beq c.size 0
  | _ => false
def cleanB : Value → Bool
  | .agg cs => cs.toList.all cleanS
  | .tuple cs => cs.toList.all cleanS
  | v => cleanS v
def plainS : Value → Bool
  | .bool _ => true
  | .int _ _ => true
  | .string _ => true
  | _ => false
def plainB : Value → Bool
  | .agg cs => cs.toList.all plainS
  | v => plainS v
def nilB : Value → Bool
  | .pointer none => true
  | .slice none _ _ => true
  | .map none => true
  | .nilFunc => true
  | _ => false
def refB : Value → Bool
  | .pointer _ => true
  | .slice _ _ _ => true
  | .map _ => true
  | .nilFunc => true
  | .func _ _ _ => true
  | _ => false

def INF : Nat := 4611686018427387904
def HALF : Nat := 2305843009213693952
def knownCap (c : Nat) : Bool := Nat.blt c HALF

/-- A pure operation: the model's own, in a world of no account. -/
def pureRun (P : Program) (m : Sem Value) : Option Value := match m.run P default with
  | .ok v _ => bif cleanB v then some v else none
  | .halt _ _ => none

/-! ## Frames -/
def Fr.get (f : Fr) (k : Nat) : Option Value := f.t.get k
def Fr.put (f : Fr) (dst : Option Tmp) (v : Value) : Fr := match dst with
  | some d => (match f with
    | ⟨t, n, ro, ds⟩ => bif Nat.blt d n then ⟨t.set d v, n, ro, ds⟩ else ⟨t, n, ro, ds⟩)
  | none => f
def Fr.args (t : Tr Value) : Nat → List Value → Tr Value
  | _, [] => t
  | k, v :: vs => Fr.args (t.set k v) (k + 1) vs
def Fr.init (args : List Value) (n : Nat) : Fr := ⟨Fr.args .nil 0 args, n, none, []⟩
/-- The frame of a round: yield's arguments in the loop's left sides. -/
def Fr.puts : Fr → List Tmp → List Value → Fr
  | f, p :: ps, v :: vs => Fr.puts (f.put (some p) v) ps vs
  | f, _, _ => f
def Fr.eval (f : Fr) : Operand → M Value
  | .tmp t => optM 203 (f.get t)
  | .const v => bif cleanB v then M.pure v else M.bad 201
  | .global _ => M.bad 202
  | .func g => M.pure (.func (.func g) #[] #[])
def evalL (f : Fr) : List Operand → M (List Value)
  | [] => M.pure []
  | x :: xs => M.bind (f.eval x) fun v => M.bind (evalL f xs) fun vs => M.pure (v :: vs)

/-! ## Operations -/
def loadA (P : Program) (t : TypeId) (a : Value) : M Value := match a with
  | .pointer (some ⟨i, o, none⟩) => M.bind (optM 301 (aggB P t)) fun b =>
      bif b then M.bind (optM 302 (sizeB P t)) fun n => M.bind (rdB i o n) fun vs => M.pure (.agg vs.toArray) else rd i o
  | _ => M.bad 303
def storeA (P : Program) (t : TypeId) (a v : Value) : M Unit := match a with
  | .pointer (some ⟨i, o, none⟩) => M.bind (optM 304 (sizeB P t)) fun n =>
      M.bind (guardM 305 (Nat.beq v.cells.size n)) fun _ => wrB i o v.cells.toList
  | _ => M.bad 306
def newRowA (T : TypeId) (cells : List Value) : M Value :=
  M.bind (guardM 307 (cells.all oneB)) fun _ =>
  M.bind (newA (.row T (mkCells cells) false)) fun i => M.pure (.pointer (some ⟨i, 0, none⟩))
def fillA (place : Nat → Option (Nat × Nat)) (cells : List Value) : List (Nat × Value) → Option (List Value)
  | [] => some cells
  | (i, v) :: rest => match place i with
    | none => none
    | some (off, size) =>
      if v.cells.size ≠ size || off + v.cells.size > cells.length then none
      else fillA place (cells.take off ++ v.cells.toList ++ cells.drop (off + v.cells.size)) rest
def placesL (P : Program) : List Field → Option (List (Nat × Nat))
  | [] => some []
  | f :: fs => match sizeB P f.type, placesL P fs with
    | some n, some ps => some ((f.offset, n) :: ps)
    | _, _ => none
def buildA (P : Program) (t : TypeId) (parts : List (Nat × Value)) : Option Value := match zeroB P t with
  | none => none
  | some z => bif cleanB z then (match P.underlying t with
    | some (.struct fs) => (match placesL P fs.toList with
      | some ps => (match fillA (fun i => ps[i]?) z.cells.toList parts with
        | some cs => some (.agg cs.toArray)
        | none => none)
      | none => none)
    | some (.array _ e) => (match sizeB P e with
      | some n => (match fillA (fun i => some (i * n, n)) z.cells.toList parts with
        | some cs => some (.agg cs.toArray)
        | none => none)
      | none => none)
    | _ => none) else none
def repL (z : List Value) : Nat → List Value
  | 0 => []
  | n + 1 => z ++ repL z n
def buildSliceA (P : Program) (t : TypeId) (len : Nat) (parts : List (Nat × Value)) : M Value :=
  M.bind (optM 310 (sliceElem P t)) fun e =>
  M.bind (optM 311 (sizeB P e)) fun n =>
  M.bind (guardM 312 (Nat.blt 0 n && Nat.ble (len * n) 16777216)) fun _ =>
  M.bind (optM 313 (zeroB P e)) fun z =>
  M.bind (guardM 314 (Nat.beq z.cells.size n && cleanB z)) fun _ =>
  M.bind (optM 315 (fillA (fun i => some (i * n, n)) (repL z.cells.toList len) parts)) fun cs =>
  M.bind (guardM 316 (cs.all oneB)) fun _ =>
  M.bind (newA (.row e (mkCells cs) false)) fun i => M.pure (.slice (some ⟨i, 0, none⟩) len len)
def fieldAddrA (P : Program) (s : TypeId) (x : Value) (f : Nat) : Option Value := match x with
  | .pointer (some ⟨i, o, none⟩) => (match P.underlying s with
    | some (.struct fs) => (match fs[f]? with
      | some fd => (match sizeB P fd.type with
        | some n => bif Nat.beq n 0 then none else some (.pointer (some (Addr.add ⟨i, o, none⟩ fd.offset)))
        | none => none)
      | none => none)
    | _ => none)
  | _ => none
def inB (i : Int) (len : Nat) : Bool := decide (0 ≤ i ∧ i < (len : Int))
def indexAddrA (P : Program) (t : TypeId) (x ix : Value) : Option Value := match ix with
  | .int _ j => (match P.underlying t, x with
    | some (.array len e), .pointer (some a) => (match sizeB P e with
      | some n => bif inB j len then some (.pointer (some (a.add (j.toNat * n)))) else none
      | none => none)
    | some (.slice e), .slice (some a) len _ => (match sizeB P e with
      | some n => bif inB j len then some (.pointer (some (a.add (j.toNat * n)))) else none
      | none => none)
    | _, _ => none)
  | _ => none
def partA (P : Program) (t : TypeId) (cs : Array Value) (off : Nat) : Option Value := match aggB P t, sizeB P t with
  | some true, some n => some (.agg (cs.extract off (off + n)))
  | some false, some _ => cs[off]?
  | _, _ => none
def indexA (P : Program) (t : TypeId) (x ix : Value) : Option Value := match ix with
  | .int _ j => (match P.underlying t, x with
    | some (.array len e), .agg cs => (match sizeB P e with
      | some n => bif inB j len then partA P e cs (j.toNat * n) else none
      | none => none)
    | some .string, .string s => bif inB j s.size then (match s[j.toNat]? with
      | some b => some (.int .u8 b.toNat)
      | none => none) else none
    | _, _ => none)
  | _ => none
def fieldA (P : Program) (t : TypeId) (x : Value) (f : Nat) : Option Value := match x with
  | .agg cs => (match P.underlying t with
    | some (.struct fs) => (match fs[f]? with
      | some fd => partA P fd.type cs fd.offset
      | none => none)
    | _ => none)
  | _ => none
def boundA (y : Nat) : Option Value → Nat → Option Nat
  | none, d => some d
  | some (.int _ i), _ => bif decide (0 ≤ i ∧ i ≤ (y : Int)) then some i.toNat else none
  | some _, _ => none
/-- 's[lo:hi:max]': a slice whose capacity is not known may be cut within its length alone. -/
def sliceA (P : Program) (t : TypeId) (x : Value) (lo hi mx : Option Value) : Option Value := match P.underlying t, x with
  | some .string, .string s => (match mx, boundA s.size hi s.size with
    | none, some h => (match boundA h lo 0 with
      | some l => some (.string (s.extract l h))
      | none => none)
    | _, _ => none)
  | some (.slice e), .slice none _ _ => bif mx.isSome && !hi.isSome then none else (match boundA 0 hi 0, boundA 0 lo 0, boundA 0 mx 0 with
    | some _, some _, some _ => (match sizeB P e with
      | some _ => some (.slice none 0 0)
      | none => none)
    | _, _, _ => none)
  | some (.slice e), .slice (some a) len cap =>
    let cut := bif knownCap cap then cap else len
    (match sizeB P e, boundA cut mx cut with
    | some n, some m => (match boundA m hi len with
      | some h => (match boundA h lo 0 with
        | some l =>
          bif mx.isSome && !hi.isSome then none else
          bif mx.isSome || knownCap cap then
            (bif knownCap m then some (.slice (some (if m = l then a else a.add (l * n))) (h - l) (m - l)) else none)
          else (bif Nat.ble (HALF + l) cap && Nat.ble cap INF then some (.slice (some (a.add (l * n))) (h - l) (cap - l)) else none)
        | none => none)
      | none => none)
    | _, _ => none)
  | some (.array len e), .pointer (some a) => (match sizeB P e, boundA len mx len with
    | some n, some m => (match boundA m hi len with
      | some h => (match boundA h lo 0 with
        | some l => bif (mx.isSome && !hi.isSome) || !(knownCap m) then none else
          some (.slice (some (if m = l then a else a.add (l * n))) (h - l) (m - l))
        | none => none)
      | none => none)
    | _, _ => none)
  | _, _ => none

/-- A slice cut beyond its length, where the row's cells show that there is room. -/
def sliceX (P : Program) (t : TypeId) (x : Value) (lo hi mx : Option Value) : M Value := match x with
  | .slice (some ⟨i, o, none⟩) len cap =>
    M.bind (optM 470 (sliceElem P t)) fun e =>
    M.bind (optM 471 (sizeB P e)) fun n =>
    M.bind (info i) fun (T, L, _) =>
    M.bind (optM 472 (boundA (L / n - (INF - cap)) hi len)) fun h =>
    M.bind (optM 473 (boundA h lo 0)) fun l =>
    M.bind (guardM 474 (Nat.beq T e && !knownCap cap && Nat.ble (HALF + l) cap && Nat.ble cap INF && !mx.isSome && hi.isSome)) fun _ =>
    M.pure (.slice (some ⟨i, o + l * n, none⟩) (h - l) (cap - l))
  | _ => M.bad 411
def isOk {α : Type} : Option α → Bool
  | some _ => true
  | none => false
def srcCells (n size : Nat) : Value → M (List Value)
  | .slice (some ⟨i, o, none⟩) _ _ => rdB i o (n * size)
  | .slice none _ _ => M.pure []
  | .string s => bif Nat.beq size 1 then M.pure (((s.extract 0 n).data.toList).map fun b => .int .u8 b.toNat) else M.bad 321
  | _ => M.bad 320
def lenA : Value → Option Nat
  | .slice _ n _ => some n
  | .string s => some s.size
  | _ => none
def isIntT (P : Program) (t : TypeId) : Bool := match P.underlying t with
  | some (.int _) => true
  | _ => false
def bytesB (P : Program) (t : TypeId) : Option Nat := match P.info? t with
  | some i => some i.bytes
  | none => none
def appendA (P : Program) (ats : List TypeId) (args : List Value) : M Value := match ats, args with
  | [st, xt], [.slice base sLen sCap, x] =>
    M.bind (optM 330 (sliceElem P st)) fun e =>
    M.bind (optM 331 (sizeB P e)) fun size =>
    M.bind (optM 332 (bytesB P e)) fun bytes =>
    M.bind (optM 329 (zeroB P e)) fun z =>
    M.bind (guardM 333 (Nat.blt 0 size && !isIntT P xt && (P.underlying xt).isSome && Nat.beq z.cells.size size)) fun _ =>
    M.bind (optM 334 (lenA x)) fun n =>
    bif Nat.beq n 0 then M.pure (.slice base sLen sCap) else
    let need := sLen + n
    M.bind (guardM 335 (Nat.ble (need * bytes) 70368744177664 && Nat.blt need HALF)) fun _ =>
    M.bind (srcCells n size x) fun new =>
    M.bind (guardM 328 (new.all oneB)) fun _ =>
    (match base with
    | none => M.bind (newA (.row e (mkCells new) false)) fun j => M.pure (.slice (some ⟨j, 0, none⟩) need INF)
    | some ⟨i, o, none⟩ =>
      bif knownCap sCap then
        (bif Nat.ble need sCap then
          M.bind (wrB i (o + sLen * size) new) fun _ => M.pure (.slice (some ⟨i, o, none⟩) need sCap)
        else
          M.bind (rdB i o (sLen * size)) fun old =>
          M.bind (guardM 327 (old.all oneB)) fun _ =>
          M.bind (newA (.row e (mkCells (old ++ new)) false)) fun j => M.pure (.slice (some ⟨j, 0, none⟩) need INF))
      else
        M.bind (info i) fun (T, len, ro) =>
        bif Nat.beq T e && Nat.beq o ((INF - sCap) * size) && Nat.ble (o + need * size) len && Nat.ble sCap INF then
          M.bind (wrB i (o + sLen * size) new) fun _ => M.pure (.slice (some ⟨i, o, none⟩) need sCap)
        else
        M.bind (guardM 336 (Nat.beq T e && !ro && Nat.beq o ((INF - sCap) * size) && Nat.beq (o + sLen * size) len && Nat.ble sCap INF)) fun _ =>
        bif Nat.beq o 0 then M.bind (growA i e new) fun j => M.pure (.slice (some ⟨j, 0, none⟩) need INF) else
        M.bind (rdB i o (sLen * size)) fun old =>
        M.bind (guardM 326 (old.all oneB)) fun _ =>
        M.bind (killA i) fun _ =>
        M.bind (newA (.row e (mkCells (old ++ new)) false)) fun j => M.pure (.slice (some ⟨j, 0, none⟩) need INF)
    | some _ => M.bad 337)
  | _, _ => M.bad 338

def copyA (P : Program) (ats : List TypeId) (args : List Value) : M Value := match ats, args with
  | t :: _, [.slice base dLen _, x] =>
    M.bind (optM 371 (sliceElem P t)) fun e =>
    M.bind (optM 372 (sizeB P e)) fun size =>
    M.bind (optM 373 (lenA x)) fun sn =>
    let n := Nat.min sn dLen
    M.bind (srcCells n size x) fun cells =>
    (match base with
    | none => M.pure (goInt n)
    | some ⟨i, o, none⟩ => M.bind (wrB i o cells) fun _ => M.pure (goInt n)
    | some _ => M.bad 374)
  | _, _ => M.bad 375
def makeSliceA (P : Program) (t : TypeId) (lv cv : Value) : M Value := match lv, cv with
  | .int _ (.ofNat l), .int _ (.ofNat c) =>
    M.bind (optM 421 (sliceElem P t)) fun e =>
    M.bind (optM 422 (sizeB P e)) fun size =>
    M.bind (optM 423 (bytesB P e)) fun bytes =>
    M.bind (guardM 424 (Nat.ble l c && Nat.blt 0 c && Nat.blt 0 size && Nat.ble (c * bytes) 16777216 && Nat.ble (c * size) 16777216 && Nat.blt c HALF)) fun _ =>
    M.bind (optM 425 (zeroB P e)) fun z =>
    M.bind (guardM 426 (Nat.beq z.cells.size size && cleanB z)) fun _ =>
    M.bind (newRowA e (repL z.cells.toList c)) fun p => (match p with
    | .pointer a => M.pure (.slice a l c)
    | _ => M.bad 427)
  | _, _ => M.bad 428
def arrayAtA (P : Program) (t : TypeId) (x : Value) : Option Value := match P.underlying t, x with
  | some (.array n _), .slice (some a) len _ => bif Nat.blt 0 n && Nat.ble n len then some (.pointer (some a)) else none
  | _, _ => none
def minmaxA (mx : Bool) (args : List Value) : Option Value := match args with
  | [.int k x, .int _ y] => some (.int k (bif mx then (if y > x then y else x) else (if y < x then y else x)))
  | _ => none

def sameA : Value → Value → Option Bool
  | .int k a, .int j b => if k = j then some (a == b) else none
  | .string a, .string b => some (a == b)
  | .bool a, .bool b => some (a == b)
  | _, _ => none
def chkB (P : Program) (e : Bool) (t : TypeId) (v : Value) : Bool := match (Instr.checkKey e 10000 t v).run P default with
  | .ok _ _ => true
  | .halt _ _ => false
def eqRun (P : Program) (t : TypeId) (a b : Value) : Option Bool := match (Op.equal t a b).run P default with
  | .ok r _ => some r
  | .halt _ _ => none
def keyB (P : Program) (t : TypeId) (v : Value) : Bool := match P.underlying t, v with
  | some (.int _), .int _ _ => true
  | some .string, .string _ => true
  | some .bool, .bool _ => true
  | some (.struct _), .agg cs => plainB (.agg cs) && chkB P false t (.agg cs) && chkB P true t (.agg cs)
  | _, _ => false
/-- Are two keys one? -/
def eqK (P : Program) (t : TypeId) (k k' : Value) : Option Bool := match k with
  | .agg _ => bif plainB k && plainB k' then (match eqRun P t k k' with
    | some true => bif beqV k k' then some true else none
    | r => r) else none
  | k => sameA k k'
/-- Where a key stands. -/
def idxA (eq : Value → Option Bool) : List (Value × Value) → Nat → Option (Option Nat)
  | [], _ => some none
  | (k', _) :: es, i => match eq k' with
    | some true => some (some i)
    | some false => idxA eq es (i + 1)
    | none => none
def eraL {α : Type} (l : List α) (j : Nat) : List α := appL (takL l j) (droL l (j + 1))
def mapT (P : Program) (t : TypeId) : Option (TypeId × TypeId) := match P.underlying t with
  | some (.map k e) => some (k, e)
  | _ => none
def lookupA (P : Program) (t : TypeId) (x k : Value) (ok : Bool) : M Value :=
  M.bind (optM 340 (mapT P t)) fun (kt, et) =>
  M.bind (guardM 341 (keyB P kt k)) fun _ =>
  M.bind (optM 342 (zeroB P et)) fun z =>
  M.bind (guardM 343 (cleanB z)) fun _ =>
  M.bind (match x with
    | .map none => M.pure ⟨[], [], 0⟩
    | .map (some i) => mapGet i
    | _ => M.bad 344) fun mp =>
  match idxA (eqK P kt k) mp.es 0 with
  | some (some j) => (match nthL mp.es j with
    | some p => M.pure (if ok then .tuple #[p.2, .bool true] else p.2)
    | none => M.bad 338)
  | some none => M.pure (if ok then .tuple #[z, .bool false] else z)
  | none => M.bad 339
def mapUpdateA (P : Program) (t : TypeId) (x k v : Value) : M Unit :=
  M.bind (optM 345 (mapT P t)) fun (kt, _) =>
  M.bind (guardM 346 (keyB P kt k)) fun _ => match x with
    | .map (some i) => M.bind (mapGet i) fun mp => (match idxA (eqK P kt k) mp.es 0 with
      | some (some j) => mapSet i (setL (k, v) mp.es j) mp.bs mp.clk
      | some none => mapSet i (appL mp.es [(k, v)]) (appL mp.bs [mp.clk]) (mp.clk + 1)
      | none => M.bad 352)
    | _ => M.bad 347
def deleteA (P : Program) (t : TypeId) (x k : Value) : M Unit :=
  M.bind (optM 348 (mapT P t)) fun (kt, _) =>
  M.bind (guardM 349 (keyB P kt k)) fun _ => match x with
    | .map none => M.pure ()
    | .map (some i) => M.bind (mapGet i) fun mp => (match idxA (eqK P kt k) mp.es 0 with
      | some (some j) => mapSet i (eraL mp.es j) (eraL mp.bs j) mp.clk
      | some none => mapSet i mp.es mp.bs mp.clk
      | none => M.bad 353)
    | _ => M.bad 350

def lenBuiltin (P : Program) (t : TypeId) (x : Value) : M Value := match P.underlying t with
  | some .string => (match x with
    | .string s => M.pure (goInt s.size)
    | _ => M.bad 351)
  | some (.array n _) => M.pure (goInt n)
  | some (.slice _) => (match x with
    | .slice _ n _ => M.pure (goInt n)
    | _ => M.bad 354)
  | some (.map _ _) => (match x with
    | .map none => M.pure (goInt 0)
    | .map (some i) => M.bind (mapGet i) fun mp => M.pure (goInt mp.es.length)
    | _ => M.bad 355)
  | _ => M.bad 356

def nilEq (P : Program) (t : TypeId) (a b : Value) : Option Bool := match P.underlying t, a, b with
  | some (.pointer _), .pointer none, .pointer y => some y.isNone
  | some (.pointer _), .pointer (some _), .pointer none => some false
  | some (.slice _), .slice none _ _, .slice y _ _ => some y.isNone
  | some (.slice _), .slice (some _) _ _, .slice none _ _ => some false
  | some (.map _ _), .map none, .map y => some y.isNone
  | some (.map _ _), .map (some _), .map none => some false
  | some (.func _ _ _), .nilFunc, .nilFunc => some true
  | some (.func _ _ _), .nilFunc, .func _ _ _ => some false
  | some (.func _ _ _), .func _ _ _, .nilFunc => some false
  | _, _, _ => none
def isAggV : Value → Bool
  | .agg _ => true
  | _ => false
def symB : Value → Bool
  | .agg _ => true
  | .float _ _ => true
  | .complex _ _ _ => true
  | .chan _ => true
  | _ => false
def isCx : Value → Bool
  | .complex _ _ _ => true
  | .chan _ => true
  | _ => false
def orAsm [Asm] (k : AK) : Option Value → Option Value
  | some v => some v
  | none => asmGet k
def binA [Asm] (P : Program) (op : BinOp) (t : TypeId) (a b : Value) : M Value :=
  bif plainB a && plainB b then
    M.bind (guardM 365 (!isAggV a || !(P.eqGuardType P.depth t))) fun _ => optM 360 (pureRun P (binOp op t a b))
  else bif symB a || symB b then optM 364 (asmGet (.bin op t a b)) else (match op with
    | .eql => M.bind (optM 361 (nilEq P t a b)) fun r => M.pure (.bool r)
    | .neq => M.bind (optM 362 (nilEq P t a b)) fun r => M.pure (.bool (!r))
    | _ => M.bad 363)

structure Rec where
  exec : Code → Fr → M (Exit × Fr)
  call : FuncId → List Value → M Value

def jumpOf : Exit → Option (Option Code)
  | .normal => some none
  | .ret => some (some .ret)
  | .exit id => some (some (.exit id))
  | .goto l => some (some (.goto l))
  | _ => none
/-- A call of yield: a round. -/
def yieldA (r : Rec) (l : Nat) (args : List Value) : M Value :=
  M.bind (lpGet l) fun x =>
  M.bind (guardM 376 (Nat.beq args.length x.ps.length)) fun _ =>
  M.bind (r.exec x.assign (Fr.puts ⟨x.f.t, x.f.n, some l, []⟩ x.ps args)) fun (e, f1) => (match e with
  | .normal =>
    M.bind (lpGet l) fun y => (match y.st with
    | .ready =>
      M.bind (lpSet l .busy y.pend) fun _ =>
      M.bind (r.exec x.body f1) fun (e2, _) => (match jumpOf e2 with
      | some none => M.bind (lpSet l .ready none) fun _ => M.pure (.bool true)
      | some j => M.bind (lpSet l .done j) fun _ => M.pure (.bool false)
      | none => M.bad 377)
    | _ => M.bad 378)
  | _ => M.bad 379)
def callV (r : Rec) (f : Value) (args : List Value) : M Value := match f with
  | .func (.func g) first captured => r.call g (first.toList ++ args ++ captured.toList)
  | .func (.yield l) first captured => bif Nat.beq first.size 0 && Nat.beq captured.size 0 then yieldA r l args else M.bad 369
  | _ => M.bad 370

def pairsL (f : Fr) : List (Nat × Operand) → M (List (Nat × Value))
  | [] => M.pure []
  | (i, x) :: xs => M.bind (f.eval x) fun v => M.bind (pairsL f xs) fun vs => M.pure ((i, v) :: vs)
def evalO (f : Fr) : Option Operand → M (Option Value)
  | none => M.pure none
  | some x => M.bind (f.eval x) fun v => M.pure (some v)

def cellsIs (cs : Cells) : Nat → List Value → Bool
  | _, [] => true
  | k, v :: l => (match cs.get k with
    | some u => beqV u v
    | none => false) && cellsIs cs (k + 1) l
/-- Is an object the one that is written out? -/
def matchO : AObj → AObj → Bool
  | .row T (.lst l) ro, .row T' cs ro' => Nat.beq T T' && (ro == ro') && cellsIs cs 0 l
  | .orow T j ro, .orow T' j' ro' => Nat.beq T T' && Nat.beq j j' && (ro == ro')
  | _, _ => false
def live : AObj → Bool
  | .dead => false
  | _ => true
def swapA (a : Nat) (o o' : AObj) : M Unit := fun c h => match h.get a with
  | some x => bif matchO o x then .ok () c (h.set a o') (.one (.row a true)) else .bad 801
  | none => .bad 802
def seeA (a : Nat) (o : AObj) : M Unit := fun c h => match h.get a with
  | some x => bif matchO o x then .ok () c h (.one (.row a false)) else .bad 803
  | none => .bad 804
/-- An object that the callee does not look at. -/
def liveA (a : Nat) : M Unit := fun c h => match h.get a with
  | some _ => .ok () c h (.one (.row a false))
  | none => .bad 806
def hidsM : Ren → M Unit
  | [] => M.pure ()
  | p :: l => M.bind (liveA p.1) fun _ => hidsM l
def footsM : List Foot → M Unit
  | [] => M.pure ()
  | f :: fs => M.bind (bif f.ro then seeA f.a f.o else swapA f.a f.o f.o') fun _ => footsM fs
def newsM : Nat → HL → M Unit
  | _, [] => M.pure ()
  | k, (_, o) :: l => M.bind (newA o) fun i => M.bind (guardM 811 (Nat.beq i k)) fun _ => newsM (k + 1) l
def runE (e : Entry) : M Value := M.bind (hidsM e.hids) fun _ => M.bind (footsM e.foots) fun _ => M.bind (newsM e.c e.news) fun _ => M.pure e.res
def findE (args : List Value) (c : Nat) : List Entry → Option Entry
  | [] => none
  | e :: es => bif Nat.beq e.c c && beqVL args e.args then some e else findE args c es
def orc (es : List Entry) : List Value → M Value := fun args c h => match findE args c es with
  | some e => runE e c h
  | none => .bad 810
def findApp (ats : List TypeId) (args : List Value) (c : Nat) : List (List TypeId × Entry) → Option Entry
  | [] => none
  | (ts, e) :: es => bif Nat.beq e.c c && beqVL args e.args && decide (ts = ats) then some e else findApp ats args c es
/-- An append of which it is known what it does. -/
def appX [a : Asm] (ats : List TypeId) (args : List Value) : M Value := fun c h => match findApp ats args c a.apps with
  | some e => runE e c h
  | none => .bad 812
def findLd (t k : Nat) : List LdE → Option LdE
  | [] => none
  | e :: es => bif Nat.beq e.t t && Nat.beq e.k k then some e else findLd t k es
/-- A read where it is not known by its number which cell is read. -/
def loadX [a : Asm] (t k : Nat) : M Value := fun c h => match findLd t k a.lds with
  | some e => (match h.get e.id with
    | some (.orow _ j _) => bif Nat.beq j e.j then .ok e.v c h (.one (.row e.id false)) else .bad 813
    | _ => .bad 814)
  | none => appX [t, 1000000] [.chan (some k)] c h
/-- A write where it is not known by its number which cell is written. -/
def storeX [Asm] (P : Program) (t : TypeId) (a v : Value) : M Unit := match a with
  | .chan (some k) => M.bind (appX [t, 1000001] [.chan (some k), v]) fun _ => M.pure ()
  | a => storeA P t a v
def clearA (P : Program) (t : TypeId) (x : Value) : M Value := match x with
  | .map none => M.bind (optM 449 (P.underlying t)) fun _ => M.pure (.tuple #[])
  | .map (some i) => M.bind (optM 450 (mapT P t)) fun _ => M.bind (mapGet i) fun mp => M.bind (mapSet i [] [] mp.clk) fun _ => M.pure (.tuple #[])
  | .slice (some ⟨i, o, none⟩) n _ => M.bind (optM 451 (sliceElem P t)) fun e => M.bind (optM 452 (zeroB P e)) fun z => M.bind (guardM 453 (Nat.blt 0 n && Nat.blt 0 z.cells.size && cleanB z)) fun _ => M.bind (wrB i o (repL z.cells.toList n)) fun _ => M.pure (.tuple #[])
  | _ => M.bad 454
def builtinA [Asm] (P : Program) (b : Builtin) (ats : Array TypeId) (args : List Value) : M Value := match b with
  | .append => bif args.any isCx then (bif ats.toList.any (Nat.ble 1000000) then M.bad 816 else appX ats.toList args) else appendA P ats.toList args
  | .len => (match args with
    | [x] => (match ats[0]? with
      | some t => bif isCx x then optM 387 (asmGet (.len t x)) else lenBuiltin P t x
      | none => M.bad 380)
    | _ => M.bad 383)
  | .delete => (match args with
    | [m, k] => (match ats[0]? with
      | some t => M.bind (deleteA P t m k) fun _ => M.pure (.tuple #[])
      | none => M.bad 381)
    | _ => M.bad 384)
  | .copy => copyA P ats.toList args
  | .clear => (match args with
    | [x] => (match ats[0]? with
      | some t => clearA P t x
      | none => M.bad 447)
    | _ => M.bad 448)
  | .min => (match args with
    | [a, b] => optM 385 (orAsm (.mm false a b) (minmaxA false [a, b]))
    | _ => M.bad 388)
  | .max => (match args with
    | [a, b] => optM 386 (orAsm (.mm true a b) (minmaxA true [a, b]))
    | _ => M.bad 389)
  | _ => M.bad 382
def isIntV : Value → Bool
  | .int _ _ => true
  | _ => false

def oPick [Asm] (f : Fr) (c a b : Operand) : M Value := M.bind (f.eval c) fun v => M.bind (f.eval a) fun x => M.bind (f.eval b) fun y => (match truth v with
    | some t => M.pure (bif t then x else y)
    | none => M.bad 401)
def oAlloc (P : Program) (e : TypeId) : M Value := M.bind (optM 402 (zeroB P e)) fun z => M.bind (guardM 403 (cleanB z)) fun _ => newRowA e z.cells.toList
def oBox (f : Fr) (e : TypeId) (x : Operand) : M Value := M.bind (f.eval x) fun v => newRowA e v.cells.toList
def oBuild (P : Program) (f : Fr) (t : TypeId) (ps : Array (Nat × Operand)) : M Value := M.bind (pairsL f ps.toList) fun vs => optM 404 (buildA P t vs)
def oBuildSlice (P : Program) (f : Fr) (t : TypeId) (n : Nat) (ps : Array (Nat × Operand)) : M Value := M.bind (pairsL f ps.toList) fun vs => buildSliceA P t n vs
def oLoad [Asm] (P : Program) (f : Fr) (t : TypeId) (a : Operand) : M Value := M.bind (f.eval a) fun v => (match v with
    | .chan (some k) => loadX t k
    | v => loadA P t v)
def oStore [Asm] (P : Program) (f : Fr) (t : TypeId) (a x : Operand) : M Value := M.bind (f.eval a) fun v => M.bind (f.eval x) fun u => M.bind (storeX P t v u) fun _ => M.pure undef
def oNilCheck (f : Fr) (x : Operand) : M Value := M.bind (f.eval x) fun v => (match v with
    | .pointer (some a) => M.pure (.pointer (some a))
    | .func (.func g) a b => M.pure (.func (.func g) a b)
    | _ => M.bad 405)
def bothNil : Value → Value → Bool
  | .nilIface, .nilIface => true
  | _, _ => false
def isConstO : Operand → Bool
  | .const _ => true
  | _ => false
/-- Two nil values of an interface type, one of which stands there as nil. -/
def nilNil (P : Program) (op : BinOp) (t : TypeId) (k : Bool) : Option Value := match k, P.underlying t, op with
  | true, some (.interface _), .eql => some (.bool true)
  | true, some (.interface _), .neq => some (.bool false)
  | _, _, _ => none
def oBinOp [Asm] (P : Program) (f : Fr) (op : BinOp) (t : TypeId) (x y : Operand) : M Value := M.bind (f.eval x) fun a => M.bind (f.eval y) fun b => bif bothNil a b then optM 366 (nilNil P op t (isConstO x || isConstO y)) else binA P op t a b
def oUnOp [Asm] (P : Program) (f : Fr) (op : UnOp) (x : Operand) : M Value := M.bind (f.eval x) fun a => bif plainB a then optM 406 (pureRun P (Op.unary op a)) else optM 407 (asmGet (.un op a))
/-- The element type of a slice of bytes. -/
def u8Slice (P : Program) (t : TypeId) : Option TypeId := match P.underlying t with
  | some (.slice e) => (match P.underlying e with
    | some (.int .u8) => some e
    | _ => none)
  | _ => none
def isStrT (P : Program) (t : TypeId) : Bool := match P.underlying t with
  | some .string => true
  | _ => false
def bytesU : List Value → Option (List UInt8)
  | [] => some []
  | .int .u8 n :: vs => (match bytesU vs with
    | some l => some (UInt8.ofNat n.toNat :: l)
    | none => none)
  | _ :: _ => none
def uBytes (s : ByteArray) : List Value := s.data.toList.map fun b => .int .u8 b.toNat
/-- A row of bytes whose blocks may be marked. -/
def markA (i : Nat) : M Unit := M.bind (info i) fun x => guardM 461 (!x.2.2)
/-- Strings and slices of bytes. -/
def convM (P : Program) (s d : TypeId) (v : Value) : M Value := match v with
  | .string b => M.bind (optM 455 (u8Slice P d)) fun e => M.bind (guardM 456 ((P.underlying s).isSome && (match sizeB P e with
      | some n => Nat.beq n 1
      | none => false))) fun _ => M.bind (newA (.row e (mkCells (uBytes b)) false)) fun j => M.pure (.slice (some ⟨j, 0, none⟩) b.size INF)
  | .slice (some ⟨i, o, none⟩) n c => bif isStrT P d then M.bind (optM 457 (u8Slice P s)) fun _ => M.bind (rdB i o n) fun vs => M.bind (optM 458 (bytesU vs)) fun l => M.pure (.string ⟨l.toArray⟩)
      else M.bind (optM 459 (u8Slice P s)) fun _ => M.bind (guardM 460 (Nat.beq s d && Nat.blt 0 n)) fun _ => M.bind (markA i) fun _ => M.pure (.slice (some ⟨i, o, none⟩) n c)
  | .slice none _ _ => M.bind (guardM 462 (isStrT P d)) fun _ => M.bind (optM 463 (u8Slice P s)) fun _ => M.pure (.string ⟨#[]⟩)
  | _ => M.bad 464
def isStrSl : Value → Bool
  | .string _ => true
  | .slice _ _ _ => true
  | _ => false
def oConvert [Asm] (P : Program) (f : Fr) (s d : TypeId) (x : Operand) : M Value := M.bind (f.eval x) fun a => bif isIntT P s && isIntT P d && isIntV a then optM 408 (pureRun P (convert s d a)) else bif isStrSl a then convM P s d a else optM 409 (asmGet (.conv s d a))
def oMakeFunc (f : Fr) (g : Fn) (a b : Array Operand) : M Value := M.bind (evalL f a.toList) fun x => M.bind (evalL f b.toList) fun y => (match g with
    | .func h => M.pure (.func (.func h) x.toArray y.toArray)
    | _ => M.bad 410)
def oSliceToArrayPointer (P : Program) (f : Fr) (t : TypeId) (x : Operand) : M Value := M.bind (f.eval x) fun v => optM 420 (arrayAtA P t v)
def oMakeSlice (P : Program) (f : Fr) (t : TypeId) (l c : Operand) : M Value := M.bind (f.eval l) fun a => M.bind (f.eval c) fun b => makeSliceA P t a b
def oSlice [Asm] (P : Program) (f : Fr) (t : TypeId) (x : Operand) (lo hi mx : Option Operand) : M Value := M.bind (f.eval x) fun v => M.bind (evalO f lo) fun l => M.bind (evalO f hi) fun h => M.bind (evalO f mx) fun m => bif isOk (orAsm (.sli t v l h m) (sliceA P t v l h m)) then optM 411 (orAsm (.sli t v l h m) (sliceA P t v l h m)) else sliceX P t v l h m
def oFieldAddr (P : Program) (f : Fr) (t : TypeId) (x : Operand) (i : Nat) : M Value := M.bind (f.eval x) fun v => optM 412 (fieldAddrA P t v i)
def oField (P : Program) (f : Fr) (t : TypeId) (x : Operand) (i : Nat) : M Value := M.bind (f.eval x) fun v => optM 413 (fieldA P t v i)
def oIndexAddr [Asm] (P : Program) (f : Fr) (t : TypeId) (x i : Operand) : M Value := M.bind (f.eval x) fun v => M.bind (f.eval i) fun j => optM 414 (orAsm (.ixa t v j) (indexAddrA P t v j))
def oIndex [Asm] (P : Program) (f : Fr) (t : TypeId) (x i : Operand) : M Value := M.bind (f.eval x) fun v => M.bind (f.eval i) fun j => optM 415 (orAsm (.ix t v j) (indexA P t v j))
def oLookup (P : Program) (f : Fr) (t : TypeId) (x i : Operand) (ok : Bool) : M Value := M.bind (f.eval x) fun v => M.bind (f.eval i) fun j => lookupA P t v j ok
def oMapUpdate (P : Program) (f : Fr) (t : TypeId) (m k x : Operand) : M Value := M.bind (f.eval m) fun a => M.bind (f.eval k) fun b => M.bind (f.eval x) fun v => M.bind (mapUpdateA P t a b v) fun _ => M.pure undef
def oInsert (P : Program) (f : Fr) (t : TypeId) (m k x : Operand) : M Value := M.bind (f.eval m) fun a => M.bind (f.eval k) fun b => M.bind (f.eval x) fun v => M.bind (mapUpdateA P t a b v) fun _ => M.pure undef
def oExtract (f : Fr) (x : Operand) (i : Nat) : M Value := M.bind (f.eval x) fun v => (match v with
    | .tuple vs => optM 416 (vs[i]?)
    | _ => M.bad 417)
def oCall [Asm] (P : Program) (r : Rec) (f : Fr) (c : Call) : M Value := (match c.callee with
    | .value g => M.bind (f.eval g) fun v => M.bind (evalL f c.args.toList) fun args => callV r v args
    | .builtin b => M.bind (evalL f c.args.toList) fun args => builtinA P b c.argTypes args
    | .invoke _ _ => M.bad 418)
def oAssert (P : Program) (f : Fr) (x : Operand) (t : TypeId) (ok : Bool) : M Value := M.bind (f.eval x) fun v => (match v, P.underlying t, ok with
  | .nilIface, some _, true => M.bind (optM 434 (zeroB P t)) fun z => M.bind (guardM 435 (cleanB z)) fun _ => M.pure (.tuple #[z, .bool false])
  | _, _, _ => M.bad 433)
def rangeM (x : Value) : M Value := match x with
  | .map none => M.bind (newA (.iter none 0 [] 0)) fun i => M.pure (.pointer (some ⟨i, 0, none⟩))
  | .map (some m) => M.bind (mapGet m) fun mp => M.bind (newA (.iter (some m) mp.clk [] mp.clk)) fun i => M.pure (.pointer (some ⟨i, 0, none⟩))
  | _ => M.bad 437
def oRange (P : Program) (f : Fr) (t : TypeId) (x : Operand) : M Value := M.bind (f.eval x) fun v => M.bind (optM 436 (mapT P t)) fun _ => rangeM v
/-- The entries that an iterator has not met. -/
def leftA (seen : List Nat) : List (Value × Value) → List Nat → List (Value × Value × Nat)
  | (k, v) :: es, b :: bs => bif seen.any (Nat.beq b) then leftA seen es bs else (k, v, b) :: leftA seen es bs
  | _, _ => []
/-- A step of an iterator, where there is no choice. -/
def nextA (r : Nat) : M Value := M.bind (iterGet r) fun it => (match it.m with
  | none => M.pure (.tuple #[.bool false])
  | some m => M.bind (mapGet m) fun mp => M.bind (guardM 438 (Nat.ble it.since it.last && mp.bs.all fun b => Nat.blt b it.since)) fun _ => (match leftA it.seen mp.es mp.bs with
    | [] => M.pure (.tuple #[.bool false])
    | [(k, v, b)] => M.bind (iterSet r it.m it.since (appL it.seen [b]) mp.clk) fun _ => M.pure (.tuple #[.bool true, k, v])
    | _ => M.bad 440))
def oNext (f : Fr) (x : Operand) (str : Bool) : M Value := M.bind (f.eval x) fun v => (match v, str with
  | .pointer (some ⟨r, 0, none⟩), false => nextA r
  | _, _ => M.bad 441)
def lastOf : List Nat → Option Nat
  | [] => none
  | [b] => some b
  | _ :: b :: bs => lastOf (b :: bs)
def atStamp (b : Nat) : List (Value × Value) → List Nat → Option (Value × Value)
  | (k, v) :: es, b' :: bs => bif Nat.beq b' b then some (k, v) else atStamp b es bs
  | _, _ => none
def entryA (r : Nat) : M Value := M.bind (iterGet r) fun it => (match it.m, lastOf it.seen with
  | some m, some b => M.bind (mapGet m) fun mp => M.bind (guardM 442 (Nat.beq mp.clk it.last)) fun _ => (match atStamp b mp.es mp.bs with
    | some (k, v) => M.pure (.tuple #[k, v])
    | none => M.bad 443)
  | _, _ => M.bad 444)
def oEntry (f : Fr) (x : Operand) : M Value := M.bind (f.eval x) fun v => (match v with
  | .pointer (some ⟨r, 0, none⟩) => entryA r
  | _ => M.bad 445)
def opA [Asm] (P : Program) (r : Rec) (f : Fr) (o : Oper) : M Value := match o.op with
  | .move x => f.eval x
  | .assign x => f.eval x
  | .pick c a b => oPick f c a b
  | .alloc e => oAlloc P e
  | .box e x => oBox f e x
  | .build t ps => oBuild P f t ps
  | .buildSlice t n ps => oBuildSlice P f t n ps
  | .load t a => oLoad P f t a
  | .store t a x => oStore P f t a x
  | .nilCheck x => oNilCheck f x
  | .binOp op t x y _ => oBinOp P f op t x y
  | .unOp op _ x => oUnOp P f op x
  | .convert s d x => oConvert P f s d x
  | .makeFunc g a b => oMakeFunc f g a b
  | .makeMap _t none => M.bind (newA (.map [] [] 0)) fun i => M.pure (.map (some i))
  | .sliceToArrayPointer t x => oSliceToArrayPointer P f t x
  | .makeSlice t l c => oMakeSlice P f t l c
  | .slice t x lo hi mx => oSlice P f t x lo hi mx
  | .fieldAddr t x i => oFieldAddr P f t x i
  | .field t x i => oField P f t x i
  | .indexAddr t x i => oIndexAddr P f t x i
  | .index t x i => oIndex P f t x i
  | .lookup t x i ok => oLookup P f t x i ok
  | .mapUpdate t m k x => oMapUpdate P f t m k x
  | .insert t m k x => oInsert P f t m k x
  | .extract x i => oExtract f x i
  | .typeAssert x _ t ok => oAssert P f x t ok
  | .range t x => oRange P f t x
  | .next x str => oNext f x str
  | .entry x => oEntry f x
  | .call c => oCall P r f c
  | _ => M.bad 419

/-! ## Regions -/
def wantedA [Asm] (ops : Array Oper) (f : Fr) (o : Oper) : Option Bool := match o.guard with
  | none => some true
  | some (j, want) => (match (nthL ops.toList j).bind (·.dst) with
    | some d => (match f.get d with
      | some (.bool b) => some (b == want)
      | some (.float k i) => (match truth (.float k i) with
        | some b => some (b == want)
        | none => none)
      | some (.chan _) => none
      | some _ => some false
      | none => none)
    | none => some false)
def stepV [Asm] (P : Program) (r : Rec) (ops : Array Oper) (o : Oper) (f : Fr) : M Value := match wantedA ops f o with
  | some b => bif b then opA P r f o else M.pure undef
  | none => M.bad 204
def pushD (f : Fr) (d : Df) : Fr := match f with
  | ⟨t, n, ro, ds⟩ => ⟨t, n, ro, d :: ds⟩
/-- What a statement 'defer' leaves. -/
def deferA (f : Fr) (c : Call) : M Df := match c.callee with
  | .value g => M.bind (f.eval g) fun v => M.bind (evalL f c.args.toList) fun args => (match v with
    | .func (.func g) first captured => M.pure (.call g (first.toList ++ args) captured.toList)
    | _ => M.bad 430)
  | _ => M.bad 431
def isDefer (o : Oper) : Option Call := match o.op with
  | .defer c => some c
  | _ => none
def stepD (o : Oper) (c : Call) (f : Fr) : M Fr := match f.ro, o.guard with
  | none, none => M.bind (deferA f c) fun d => M.pure ((pushD f d).put o.dst undef)
  | _, _ => M.bad 432
def stepN [Asm] (P : Program) (r : Rec) (ops : Array Oper) (o : Oper) (f : Fr) : M Fr :=
  M.bind (stepV P r ops o f) fun v => M.pure (f.put o.dst v)
def stepA [Asm] (P : Program) (r : Rec) (ops : Array Oper) (o : Oper) (f : Fr) : M Fr := match isDefer o with
  | some c => stepD o c f
  | none => stepN P r ops o f
def regionL [Asm] (P : Program) (r : Rec) (ops : Array Oper) : List Oper → Fr → M Fr
  | [], f => M.pure f
  | o :: os, f => M.bind (stepA P r ops o f) fun f' => regionL P r ops os f'

/-- The direct edges, and all that follows of them, as a mask of bits. -/
def masks : List Oper → List Nat → List Nat
  | [], acc => acc
  | o :: os, acc => masks os (acc ++ [o.after.toList.foldl (fun s e => if Region.binds .any e then Nat.lor s (Nat.lor (2 ^ e.on) (acc.getD e.on 0)) else s) 0])
def pureOp (o : Oper) : Bool := match o.op with
  | .move _ => true
  | .assign _ => true
  | .pick .. => true
  | .build .. => true
  | .nilCheck _ => true
  | .binOp .. => true
  | .unOp .. => true
  | .makeFunc .. => true
  | .fieldAddr .. => true
  | .field .. => true
  | .indexAddr .. => true
  | .index .. => true
  | .extract .. => true
  | _ => false
/-- Of the operation 'oj', number j, and the earlier ones: is each that is not ahead of it by the edges apart from it (by slots)? And which of them may touch the heap, as it may? -/
def apartFrom (ops : Array Oper) (oj : Oper) (mask : Nat) : Nat → List Oper → Bool
  | _, [] => true
  | i, o :: os => (Nat.testBit mask i || o.apart ops oj) && apartFrom ops oj mask (i + 1) os
def mayTouch (oj : Oper) (mask : Nat) : Nat → List Oper → List Nat
  | _, [] => []
  | i, o :: os => bif Nat.testBit mask i || pureOp o || pureOp oj then mayTouch oj mask (i + 1) os else i :: mayTouch oj mask (i + 1) os
def noSel (o : Oper) : Bool := match o.op with
  | .select .. => false
  | _ => true
/-- The static look at a region that draws: none: two operations that no edge orders touch one slot; else, of each operation, the earlier ones whose steps on the heap are to be held against its own. -/
def statics (ops : Array Oper) : List Nat → Nat → List Oper → Option (List (List Nat))
  | ms, j, o :: os =>
    let m := ms.getD j 0
    bif noSel o && (o.after.toList.all fun e => !(Region.binds .any e) || Nat.blt e.on j) && apartFrom ops o m 0 (ops.toList.take j) then (match statics ops ms (j + 1) os with
      | some rest => some (mayTouch o m 0 (ops.toList.take j) :: rest)
      | none => none) else none
  | _, _, [] => some []
def clashAny (l : Lg) (logs : List Lg) : List Nat → Bool
  | [] => false
  | i :: is => (logs.getD i .nil).clash l || clashAny l logs is
def bindL {α β : Type} (m : M α) (f : α → Lg → M β) : M β := fun c h =>
  R.rec (motive := fun _ => R β) (fun n => .bad n)
    (fun a c1 h1 l1 => R.rec (motive := fun _ => R β) (fun n => .bad n) (fun b c2 h2 l2 => .ok b c2 h2 (.app l1 l2)) (f a l1 c1 h1)) (m c h)
def regionD [Asm] (P : Program) (r : Rec) (ops : Array Oper) : List Oper → List (List Nat) → List Lg → Fr → M Fr
  | [], _, _, f => M.pure f
  | o :: os, st, logs, f => bindL (stepV P r ops o f) fun v l =>
      bif clashAny l logs (st.headD []) then M.bad 501 else regionD P r ops os st.tail (logs ++ [l]) (f.put o.dst v)
def regionA [Asm] (P : Program) (r : Rec) (ops : Array Oper) (draw : Bool) (f : Fr) : M Fr :=
  bif draw then (match statics ops (masks ops.toList []) 0 ops.toList with
    | none => M.bad 502
    | some st => regionD P r ops ops.toList st [] f)
  else regionL P r ops ops.toList f

/-! ## Code -/
def enterA (f : Fr) : M (Nat × List Df) := match f.ro with
  | none => M.bind (newA .defd) fun d => M.pure (d, [.mark d])
  | some l => M.bind (lpGet l) fun x => M.pure (x.dfr, [])
def callF (r : Rec) (f : Value) (args : List Value) : M Value := match f with
  | .func (.func g) first captured => r.call g (first.toList ++ args ++ captured.toList)
  | _ => M.bad 605
def rangeA (r : Rec) (g : Value) (ps : List Tmp) (assign body : Code) (f : Fr) : M (Exit × Fr) :=
  M.bind (enterA f) fun (d, mark) =>
  M.bind (newA (.loop .ready none f ps assign body d)) fun l =>
  M.bind (callF r g [.func (.yield l) #[] #[]]) fun _ =>
  M.bind (lpGet l) fun x => (match x.st with
  | .busy => M.bad 604
  | _ =>
    M.bind (lpSet l .exhausted x.pend) fun _ => (match x.pend with
    | none => M.pure (.normal, ⟨f.t, f.n, f.ro, mark ++ f.ds⟩)
    | some c => r.exec c ⟨f.t, f.n, f.ro, mark ++ f.ds⟩))
def execS [Asm] (P : Program) (r : Rec) : Code → Fr → M (Exit × Fr)
  | .skip, f => M.pure (.normal, f)
  | .label _, f => M.pure (.normal, f)
  | .region _ ops draw, f => M.bind (regionA P r ops draw f) fun f' => M.pure (.normal, f')
  | .seq a b, f => M.bind (r.exec a f) fun x => (match x with
    | (.normal, f') => r.exec b f'
    | y => M.pure y)
  | .cond c a b, f => M.bind (f.eval c) fun v => (match truth v with
    | some t => bif t then r.exec a f else r.exec b f
    | none => M.bad 601)
  | .block id b, f => M.bind (r.exec b f) fun x => (match x with
    | (.exit id', f') => M.pure (bif Nat.beq id' id then .normal else .exit id', f')
    | y => M.pure y)
  | .loop b, f => M.bind (r.exec b f) fun x => (match x with
    | (.normal, f') => r.exec (.loop b) f'
    | y => M.pure y)
  | .exit id, f => M.pure (.exit id, f)
  | .ret, f => M.pure (.ret, f)
  | .scope b, f => M.bind (r.exec b f) fun x => (match x with
    | (.goto _, _) => M.bad 602
    | y => M.pure y)
  | .rangeFunc g ps assign body, f => M.bind (f.eval g) fun v => rangeA r v ps.toList assign body f
  | _, _ => M.bad 603

def resA (P : Program) (f : Fr) : List ResultVar → M (List Value)
  | [] => M.pure []
  | .tmp t :: rs => M.bind (optM 205 (f.get t)) fun v => M.bind (resA P f rs) fun vs => M.pure (v :: vs)
  | .cell a t :: rs => M.bind (optM 206 (f.get a)) fun p => M.bind (loadA P t p) fun v => M.bind (resA P f rs) fun vs => M.pure (v :: vs)
def resultsA (P : Program) (fn : Func) (f : Fr) : M Value := M.bind (resA P f fn.results.toList) fun vs =>
  match vs with
  | [v] => M.pure v
  | vs => M.pure (.tuple vs.toArray)
/-- A region that begins with a call of recover, where nobody panics. -/
def recIn (draw : Bool) (l : List Oper) : Option (Oper × List Oper) := match l with
  | o :: os => (match o.op, o.guard with
    | .call c, none => (match c.callee with
      | .builtin .recover => bif draw then none else some (o, os)
      | _ => none)
    | _, _ => none)
  | [] => none
def execR [Asm] (P : Program) (r : Rec) : Code → Fr → M (Exit × Fr)
  | .seq a b, f => M.bind (execR P r a f) fun x => (match x with
    | (.normal, f') => r.exec b f'
    | y => M.pure y)
  | .region id ops draw, f => (match recIn draw ops.toList with
    | some (o, os) => M.bind (regionL P r ops os (f.put o.dst .nilIface)) fun f' => M.pure (.normal, f')
    | none => r.exec (.region id ops draw) f)
  | c, f => r.exec c f
def endD (P : Program) (fn : Func) (f : Fr) : M Unit := match f.ds with
  | [] => M.bind (resultsA P fn f) fun _ => M.pure ()
  | _ => M.bad 624
/-- A deferred call, where nobody panics. -/
def callD [Asm] (P : Program) (r : Rec) (g : FuncId) (args : List Value) : M Unit := match nthL P.funcs.toList g with
  | none => M.bad 620
  | some fn => bif fn.name == "runtime.NumGoroutine" then M.bad 621 else match fn.body with
    | none => M.bad 622
    | some c => M.bind (execR P r c (Fr.init args (args.length + (fn.ntmps - args.length)))) fun x => (match x with
      | (.normal, f) => endD P fn f
      | (.ret, f) => endD P fn f
      | _ => M.bad 623)
def leave [Asm] (P : Program) (r : Rec) : List Df → M Unit
  | [] => M.pure ()
  | .mark i :: ds => M.bind (takeA i) fun _ => leave P r ds
  | .call g args cap :: ds => M.bind (callD P r g (args ++ cap)) fun _ => leave P r ds
abbrev Tbl := FuncId → Option (List Value → M Value)
def callS [Asm] (P : Program) (tbl : Tbl) (r : Rec) (g : FuncId) (args : List Value) : M Value := match tbl g with
  | some m => m args
  | none => match nthL P.funcs.toList g with
    | none => M.bad 610
    | some fn => bif fn.name == "runtime.NumGoroutine" then M.bad 611 else match fn.body with
      | none => M.bad 612
      | some c => M.bind (r.exec c (Fr.init args (args.length + (fn.ntmps - args.length)))) fun x => (match x with
        | (.normal, f) => M.bind (leave P r f.ds) fun _ => resultsA P fn f
        | (.ret, f) => M.bind (leave P r f.ds) fun _ => resultsA P fn f
        | _ => M.bad 613)
def badRec : Rec := ⟨fun _ _ => M.bad 1, fun _ _ => M.bad 2⟩
def rec [Asm] (P : Program) (tbl : Tbl) : Nat → Rec
  | 0 => badRec
  | n + 1 => ⟨execS P (rec P tbl n), callS P tbl (rec P tbl n)⟩
def noTbl : Tbl := fun _ => none
end
end Go.Sx

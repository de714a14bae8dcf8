import Derived.Test.YthandoangkckmaaGreatDoorSx43
namespace Go.Sx

/-! ## Nothing is a symbol -/
instance asmNone : Asm := ⟨[], [], []⟩
instance denNone : Den := { v := fun _ => .bool false, plain := fun _ => rfl, len := fun _ => 0, sh := fun _ => (0, 0), o := fun _ => .bool false, one := fun _ => rfl, row := fun _ => [], rowPlain := fun _ => rfl }
instance asmNoneOK (P : Program) : AsmOK P := ⟨(fun _ _ h => by cases h), (fun _ h => by cases h), (fun _ h => by cases h)⟩
theorem noLocal : ∀ g m args, noTbl g = some m → Local (m args) := fun _ _ _ h => by cases h
theorem noTouch : ∀ g m args, noTbl g = some m → Touch (m args) := fun _ _ _ h => by cases h
/-- A law of no arguments, by its segments. -/
theorem closed_seg {P : Program} (hm : P.follows .mixedOrders = true) {g : FuncId} {x : MC} (hs : mstart P g = some x) (hg : Gd P noTbl x) (w : World) :
    Calls P g #[] w fun e w' => e = .returned (.bool true) ∧ Go.RowKit.Below w.heap.size w w' := by
  obtain ⟨n, h⟩ := start_sound hs rfl hg
  exact closed_true hm h w
theorem seg_step {P : Program} {N n : Nat} {x y : MC} (hr : (mrun P noTbl N n x.m x.k x.c x.h).map (mcut y.h) = some y) (hg : Gd P noTbl y) : Gd P noTbl x := seg_sound noLocal noTouch hr hg
theorem seg_end {P : Program} {N n : Nat} {x : MC} (hr : endB (mrun P noTbl N n x.m x.k x.c x.h) = true) : Gd P noTbl x := end_sound noTouch hr
noncomputable section
abbrev vT : Value := .bool true
abbrev vF : Value := .bool false
abbrev vPn : Value := .pointer none
end
/-! ## Short names, for configurations that are written out -/
noncomputable section
def nav : List Nat → Code → Code
  | [], c => c
  | i :: p, c => match c with
    | .seq a b => (match i with
      | 0 => nav p a
      | _ => nav p b)
    | .cond _ a b => (match i with
      | 0 => nav p a
      | _ => nav p b)
    | .block _ b => nav p b
    | .loop b => nav p b
    | .scope b => nav p b
    | .rangeFunc _ _ a b => (match i with
      | 0 => nav p a
      | _ => nav p b)
    | c => c
def funcOf (P : Program) (g : Nat) : Func := (nthL P.funcs.toList g).getD default
def codeOf (P : Program) (g : Nat) (p : List Nat) : Code := nav p ((funcOf P g).body.getD .skip)
def regOf : Code → Array Oper
  | .region _ ops _ => ops
  | _ => #[]
abbrev vI (n : Nat) : Value := .int .i64 (.ofNat n)
abbrev vJ (n : Nat) : Value := .int .i64 (.negSucc n)
abbrev vU (n : Nat) : Value := .int .u8 (.ofNat n)
abbrev vB (l : List Nat) : List Value := List.rec (motive := fun _ => List Value) [] (fun n _ ih => vU n :: ih) l
abbrev vZ (n : Nat) : List Value := Nat.rec (motive := fun _ => List Value) [] (fun _ ih => vU 0 :: ih) n
abbrev vY (n : Nat) : List Value := Nat.rec (motive := fun _ => List Value) [] (fun _ ih => vI 0 :: ih) n
abbrev vAg (l : List Value) : Value := .agg l.toArray
abbrev vPt (b o : Nat) : Value := .pointer (some ⟨b, o, none⟩)
abbrev vSl (b o n c : Nat) : Value := .slice (some ⟨b, o, none⟩) n c
abbrev vFu (g : Nat) (a b : List Value) : Value := .func (.func g) a.toArray b.toArray
abbrev vSt (l : List Nat) : ByteArray := ⟨(l.map UInt8.ofNat).toArray⟩
abbrev lf {α : Type} (v : α) : Tr α := .node (some v) .nil .nil .nil .nil
abbrev nd {α : Type} (v : α) (a b c d : Tr α) : Tr α := .node (some v) a b c d
abbrev no {α : Type} (a b c d : Tr α) : Tr α := .node none a b c d
end
end Go.Sx

import Derived.Test.YtpennfojidpmeaaQf
import Derived.Test.YtpennfojidpmeaaRows
namespace Go.Proofs.Ytpennfojidpmeaa
open Go.Sx
theorem mixed : Try.prog.follows .mixedOrders = true := by kernel_rfl
def sv (i : Nat) : Value := .float .f64 i
theorem no_rows : ∀ r ∈ ([] : List (List Value)), r.all plainS = true := by simp
theorem entOK {d : Den} {g : FuncId} {e : Entry} {args : List Value} {A : HL} {res : Value} {B : HL} (h : Ctr Try.prog g args A res B) (h1 : entB e = true) (h2 : @entOf d e = some (args, A, res, B)) : @EntryOK d Try.prog g e := @EntryOK.mk d Try.prog g e args A res B h h1 h2
theorem one_entry {d : Den} {g : FuncId} {e : Entry} (h : @EntryOK d Try.prog g e) : ∀ x ∈ [e], @EntryOK d Try.prog g x := fun x hx => by rw [List.mem_singleton.1 hx]; exact h
theorem PL.cons {a : List Value} {l : List (List Value)} (h : a.all plainS = true) (hl : ∀ r ∈ l, r.all plainS = true) : ∀ r ∈ a :: l, r.all plainS = true := by
  intro r hr
  rcases List.mem_cons.1 hr with rfl | hr
  · exact h
  · exact hl r hr
theorem wrap_id {x : Int} (h1 : -9223372036854775808 ≤ x) (h2 : x ≤ 9223372036854775807) : IntKind.i64.wrap x = x := by
  simp [IntKind.wrap, IntKind.bits, IntKind.signed]
  omega
abbrev iv (n : Int) : Value := .int .i64 n
abbrev pt (i o : Nat) : Value := .pointer (some ⟨i, o, none⟩)
section
variable {d : Den} {P : Program} {k : AK}
theorem tB {q : FloatKind} {i : Nat} {b c : Bool} (hb : b = c) (h : d.v i = .bool b := by kernel_rfl) : @AK.Ok d P (.test q i) (.bool c) := asT (h.trans (congrArg Value.bool hb))
theorem qT (c : Prop) [Decidable c] (hc : c) (h : @AKE d P k = some (.bool (decide c)) := by kernel_rfl) : @AK.Ok d P k (.bool true) := asB h (decide_eq_true hc)
theorem qF (c : Prop) [Decidable c] (hc : ¬ c) (h : @AKE d P k = some (.bool (decide c)) := by kernel_rfl) : @AK.Ok d P k (.bool false) := asB h (decide_eq_false hc)
theorem eT (a b : Int) (hc : a = b) (h : @AKE d P k = some (.bool (a == b)) := by kernel_rfl) : @AK.Ok d P k (.bool true) := asB h (beq_iff_eq.2 hc)
theorem eF (a b : Int) (hc : a ≠ b) (h : @AKE d P k = some (.bool (a == b)) := by kernel_rfl) : @AK.Ok d P k (.bool false) := asB h (beq_eq_false_iff_ne.2 hc)
theorem nT (a b : Int) (hc : a ≠ b) (h : @AKE d P k = some (.bool (a != b)) := by kernel_rfl) : @AK.Ok d P k (.bool true) := asB h (bne_iff_ne.2 hc)
theorem nF (a b : Int) (hc : a = b) (h : @AKE d P k = some (.bool (a != b)) := by kernel_rfl) : @AK.Ok d P k (.bool false) := asB h (bne_eq_false_iff_eq.2 hc)
end
theorem oe {d : Den} {g : FuncId} {e : Entry} {args : List Value} {A : HL} {res : Value} {B : HL} (h : Ctr Try.prog g args A res B) (h1 : entB e = true := by kernel_rfl) (h2 : @entOf d e = some (args, A, res, B) := by kernel_rfl) : ∀ x ∈ [e], @EntryOK d Try.prog g x := one_entry (entOK h h1 h2)
theorem oe2 {d : Den} {g : FuncId} {e : Entry} {l : List Entry} (h : ∀ x ∈ [e], @EntryOK d Try.prog g x) (h2 : ∀ x ∈ l, @EntryOK d Try.prog g x) : ∀ x ∈ e :: l, @EntryOK d Try.prog g x := fun x hx => by
  rcases List.mem_cons.1 hx with rfl | hx
  · exact h _ (List.mem_singleton.2 rfl)
  · exact h2 x hx
theorem st {d : Den} {t : TypeId} {e : Entry} {a v : Value} {A B : HL} (h : StC Try.prog t a v A B) (h1 : entB e = true := by kernel_rfl) (h2 : @entOf d e = some ([a, v], A, .bool false, B) := by kernel_rfl) : @AppOk d Try.prog [t, 1000001] e := StOk.mk h h1 h2
theorem ap {d : Den} {s1 s2 : TypeId} {e : Entry} {args : List Value} {A : HL} {res : Value} {B : HL} (h : AppC Try.prog [s1, s2] args A res B) (h1 : entB e = true := by kernel_rfl) (h2 : @entOf d e = some (args, A, res, B) := by kernel_rfl) (h3 : Nat.blt s2 1000000 = true := by kernel_rfl) : @AppOk d Try.prog [s1, s2] e := AppOk.mk h h1 h2 h3
theorem pth (d : Den) (asm : Asm) (ents : List (FuncId × List Entry)) (hok : @AllOk d Try.prog asm.l) (hlds : @LdsOk d Try.prog asm.lds) (happs : @AppsOk d Try.prog asm.apps) (hent : @EntsOK d Try.prog ents) (c0 : Nat) (A0 : HL) (args0 : List Value) (τ : Ren) {g : FuncId}
    {args : List Value} {A : HL} {res : Value} {B : HL} (h1 : (nodupB (A0.map (·.1)) && injB τ && keepB A0 τ) = true := by kernel_rfl) (hin : @inOf d A0 args0 = some (args, A) := by kernel_rfl)
    (hrun : @outOf d τ [] ((@rec asm Try.prog (tblE noTbl ents) 200).call g args0 c0 (ofL A0)) = some (res, B) := by kernel_rfl) : Ctr Try.prog g args A res B := Ctr.path mixed d asm ents hok hlds happs hent (N := 200) (c0 := c0) (A0 := A0) (args0 := args0) (τ := τ) (ros := []) h1 hin hrun
inductive OV where
  | v (x : Value)
  | m (id n c z : Nat)
def OV.val : OV → Value
  | .v x => x
  | .m id n c z => mSl id n c z
def OV.mo : OV → Option (Nat × Nat × Nat × Nat)
  | .v _ => none
  | .m id n c z => some (id, n, c, z)
def OV.ok : OV → Bool
  | .v x => oneB x
  | .m _ _ _ _ => true
theorem OV.one : ∀ (x : OV), x.ok = true → oneB x.val = true
  | .v _, h => h
  | .m _ _ _ _, _ => rfl
noncomputable abbrev mkDenM (vals : List Value) (hv : vals.all plainS = true) (opq : List OV) (ho : opq.all OV.ok = true) (rows : List (List Value)) (hr : ∀ r ∈ rows, r.all plainS = true) : Den where
  v i := (nthL vals i).getD (.bool false)
  plain i := nthD (p := fun x => plainS x = true) (List.all_eq_true.1 hv) rfl i
  len _ := 0
  sh _ := (0, 0)
  o i := ((nthL opq i).getD (.v .nilIface)).val
  one i := nthD (p := fun x => oneB (OV.val x) = true) (fun x hx => x.one (List.all_eq_true.1 ho x hx)) rfl i
  row i := (nthL rows i).getD []
  rowPlain i := nthD (p := fun (x : List Value) => x.all plainS = true) hr rfl i
  mo i := ((nthL opq i).getD (.v .nilIface)).mo
  moOk i id n c z h := by
    generalize (nthL opq i).getD (.v .nilIface) = x at h
    cases x with
    | v y => cases h
    | m a b e f => cases h; rfl
noncomputable abbrev denQ (vs : List Value) (hv : vs.all plainS = true) (opq : List OV) (ho : opq.all OV.ok = true) (rows : List (List Value)) (hr : ∀ r ∈ rows, r.all plainS = true) : Den := mkDenM vs hv opq ho rows hr
abbrev om (id n c : Nat) : OV := .m id n c 0
abbrev ow (id n c : Nat) : OV := .m id n c 1
theorem goodS_den {d1 d2 : Den} {P : Program} (hm : P.follows .mixedOrders = true) {g : FuncId} {A B : HL} {res : Value} {an : List Nat} {k : List KI} {e : Exit} {fv : FV} {n c : Nat} {A2 : HL}
    (h1 : @snap d1 (idR A2) [] (fv.map (·.1)) (headC k e fv n c A2) = @snap d2 (idR A2) [] (fv.map (·.1)) (headC k e fv n c A2)) (h2 : (@snap d2 (idR A2) [] (fv.map (·.1)) (headC k e fv n c A2)).isSome = true)
    (hb : (nodupB (A2.map (·.1)) && injB (idR A2) && an.all (fun i => match lkR (idR A2) i with
      | some a => Nat.beq a i
      | none => false)) = true) (hg : GoodS d2 P g A res B an (headC k e fv n c A2)) : GoodS d1 P g A res B an (headC k e fv n c A2) :=
  @goodS_seg d1 d2 P hm ⟨[], [], []⟩ [] trivial trivial trivial trivial 100 0 g A B res an _ (idR A2) [] k e fv n c A2 h1 h2 hb hg
def heads : Code → List KI → List (List KI)
  | .seq a b, k => heads a (.code b :: k) ++ heads b k
  | .block id b, k => heads b (.blk id :: k)
  | .loop b, k => (.code b :: .lp b :: k) :: heads b (.lp b :: k)
  | .cond _ a b, k => heads a k ++ heads b k
  | .scope b, k => heads b (.scp :: k)
  | _, _ => []
noncomputable def hd (g n : Nat) : List KI := ((heads (codeOf Try.prog g) [])[n]?).getD []
theorem mk' {d : Den} {t : TypeId} {e : Entry} {a b res : Value} {A B : HL} (h : MkC Try.prog t a b A res B) (h1 : entB e = true := by kernel_rfl) (h2 : @entOf d e = some ([a, b], A, res, B) := by kernel_rfl) : @AppOk d Try.prog [t, 1000002] e := MkOk.mk h h1 h2
theorem gS (D : Den) (d2 : Den) {d1 : Den} (asm : Asm) (ents : List (FuncId × List Entry)) (hok : @AllOk D Try.prog asm.l) (hlds : @LdsOk D Try.prog asm.lds) (happs : @AppsOk D Try.prog asm.apps) (hent : @EntsOK D Try.prog ents) (m : Nat) (τ : Ren) {g : FuncId} {A B : HL} {res : Value} {an : List Nat} {k : List KI} {e : Exit} {fv : FV} {n c : Nat} {A1 : HL} {k2 : List KI} {e2 : Exit} {fv2 : FV} {n2 c2 : Nat} {A2 : HL}
    (hg : GoodS d2 Try.prog g A res B an (headC k2 e2 fv2 n2 c2 A2)) (h1 : @snap d1 (idR A1) [] (fv.map (·.1)) (headC k e fv n c A1) = @snap D (idR A1) [] (fv.map (·.1)) (headC k e fv n c A1) := by kernel_rfl) (h2 : (@snap D (idR A1) [] (fv.map (·.1)) (headC k e fv n c A1)).isSome = true := by kernel_rfl)
    (hb : (nodupB (A1.map (·.1)) && injB (idR A1) && an.all (fun i => match lkR (idR A1) i with
      | some a => Nat.beq a i
      | none => false)) = true := by kernel_rfl)
    (h3 : (ksteps (@rec asm Try.prog (tblE noTbl ents) 200) m (headC k e fv n c A1)).bind (@snap D τ [] (fv2.map (·.1))) = @snap d2 (idR A2) [] (fv2.map (·.1)) (headC k2 e2 fv2 n2 c2 A2) := by kernel_rfl) (h4 : (@snap d2 (idR A2) [] (fv2.map (·.1)) (headC k2 e2 fv2 n2 c2 A2)).isSome = true := by kernel_rfl)
    (hb2 : (nodupB (A2.map (·.1)) && injB τ && an.all (fun i => match lkR τ i with
      | some a => Nat.beq a i
      | none => false)) = true := by kernel_rfl) : GoodS d1 Try.prog g A res B an (headC k e fv n c A1) :=
  goodS_den mixed h1 h2 hb (@goodS_seg D d2 Try.prog mixed asm ents hok hlds happs hent 200 m g A B res an _ τ [] k2 e2 fv2 n2 c2 A2 h3 h4 hb2 hg)
theorem gF (D : Den) {d1 : Den} (asm : Asm) (ents : List (FuncId × List Entry)) (hok : @AllOk D Try.prog asm.l) (hlds : @LdsOk D Try.prog asm.lds) (happs : @AppsOk D Try.prog asm.apps) (hent : @EntsOK D Try.prog ents) (m : Nat) (τ : Ren) {g : FuncId} {A B : HL} {res : Value} {an : List Nat} {k : List KI} {e : Exit} {fv : FV} {n c : Nat} {A1 : HL}
    (h1 : @snap d1 (idR A1) [] (fv.map (·.1)) (headC k e fv n c A1) = @snap D (idR A1) [] (fv.map (·.1)) (headC k e fv n c A1) := by kernel_rfl) (h2 : (@snap D (idR A1) [] (fv.map (·.1)) (headC k e fv n c A1)).isSome = true := by kernel_rfl)
    (hb : (nodupB (A1.map (·.1)) && injB (idR A1) && an.all (fun i => match lkR (idR A1) i with
      | some a => Nat.beq a i
      | none => false)) = true := by kernel_rfl)
    (h3 : (ksteps (@rec asm Try.prog (tblE noTbl ents) 200) m (headC k e fv n c A1)).bind (@endOf D Try.prog g τ []) = some (res, B) := by kernel_rfl)
    (hb2 : (injB τ && B.all (fun p => !(lkL A p.1).isSome || (an.any (Nat.beq p.1) && match lkR τ p.1 with
      | some a => Nat.beq a p.1
      | none => false))) = true := by kernel_rfl) : GoodS d1 Try.prog g A res B an (headC k e fv n c A1) :=
  goodS_den mixed h1 h2 hb (@goodS_fin D Try.prog mixed asm ents hok hlds happs hent 200 m g A B res an _ τ [] h3 hb2)
theorem g0 (D : Den) (d2 : Den) (asm : Asm) (ents : List (FuncId × List Entry)) (hok : @AllOk D Try.prog asm.l) (hlds : @LdsOk D Try.prog asm.lds) (happs : @AppsOk D Try.prog asm.apps) (hent : @EntsOK D Try.prog ents) (m : Nat) (c0 : Nat) (A0 : HL) (args0 : List Value) (τ : Ren) {g : FuncId} {args : List Value} {A B : HL} {res : Value} {an : List Nat} {k2 : List KI} {e2 : Exit} {fv2 : FV} {n2 c2 : Nat} {A2 : HL}
    (hg : GoodS d2 Try.prog g A res B an (headC k2 e2 fv2 n2 c2 A2)) (hc : callB Try.prog g = true := by kernel_rfl) (h1 : (nodupB (A0.map (·.1)) && an.all (fun i => (lkL A0 i).isSome)) = true := by kernel_rfl) (hin : @inOf D A0 args0 = some (args, A) := by kernel_rfl)
    (h3 : (ksteps (@rec asm Try.prog (tblE noTbl ents) 200) m (startC Try.prog g args0 c0 A0)).bind (@snap D τ [] (fv2.map (·.1))) = @snap d2 (idR A2) [] (fv2.map (·.1)) (headC k2 e2 fv2 n2 c2 A2) := by kernel_rfl) (h4 : (@snap d2 (idR A2) [] (fv2.map (·.1)) (headC k2 e2 fv2 n2 c2 A2)).isSome = true := by kernel_rfl)
    (hb2 : (nodupB (A2.map (·.1)) && injB τ && an.all (fun i => match lkR τ i with
      | some a => Nat.beq a i
      | none => false)) = true := by kernel_rfl) : Ctr Try.prog g args A res B :=
  Ctr.of_goodS (d := D) an hc h1 hin (@goodS_seg D d2 Try.prog mixed asm ents hok hlds happs hent 200 m g A B res an _ τ [] k2 e2 fv2 n2 c2 A2 h3 h4 hb2 hg)
theorem aq {d : Den} {P : Program} {k : AK} {i : Nat} (u w : Value) (h : w = u) (h1 : @AKE d P k = some w := by kernel_rfl) (h2 : @cv d [] DEP (sv i) = some u := by kernel_rfl) : @AK.Ok d P k (sv i) := asP (h1.trans (congrArg some h)) h2
theorem wVi64 (x : Int) (h1 : -9223372036854775808 ≤ x) (h2 : x ≤ 9223372036854775807) : Value.int .i64 (IntKind.i64.wrap x) = .int .i64 x := by rw [wrap_id h1 h2]
theorem wVu8 (x : Int) (h1 : 0 ≤ x) (h2 : x < 256) : Value.int .u8 (IntKind.u8.wrap x) = .int .u8 x := by
  have : IntKind.u8.wrap x = x := by simp [IntKind.wrap, IntKind.bits, IntKind.signed]; omega
  rw [this]
theorem convU8 (x : Int) : Value.int .u8 (IntKind.u8.wrap x) = .int .u8 (x % 256) := by simp [IntKind.wrap, IntKind.bits, IntKind.signed]
theorem shrV {k : IntKind} (x m : Int) (hm : 0 ≤ m) : Value.int k (Int.fdiv x m) = .int k (x / m) := by rw [Int.fdiv_eq_ediv_of_nonneg x hm]
theorem remV {k : IntKind} (x y : Int) (hx : 0 ≤ x) : Value.int k (Int.tmod x y) = .int k (x % y) := by rw [Int.tmod_eq_emod_of_nonneg hx]
theorem akeRem {d : Den} {t : TypeId} {i j : Nat} {x y : Int} (h0 : y ≠ 0) (hg : (!isAggV (iv x) || !(Try.prog.eqGuardType Try.prog.depth t)) = true := by kernel_rfl) (hx : @cv d [] DEP (sv i) = some (iv x) := by kernel_rfl) (hy : @cv d [] DEP (sv j) = some (iv y) := by kernel_rfl) : @AKE d Try.prog (.bin .rem t (sv i) (sv j)) = some (iv (Int.tmod x y)) := by
  simp only [AKE, hx, hy]
  show (bif true && true && _ then pureRun Try.prog (Op.intDiv .rem .i64 x y) else none) = _
  rw [hg]
  simp only [Bool.and_self, cond_true, pureRun, Op.intDiv, if_neg h0]
  rfl
def orW (x y : Int) : Value := .int .i64 (IntKind.i64.wrap ((BitVec.ofInt 64 x ||| BitVec.ofInt 64 y).toNat))
def andW15 (x : Int) : Value := .int .u8 (IntKind.u8.wrap ((BitVec.ofInt 8 x &&& BitVec.ofInt 8 15).toNat))
theorem toNat_ofInt {w : Nat} {x : Int} (h0 : 0 ≤ x) (h1 : x < 2 ^ w) : (BitVec.ofInt w x).toNat = x.toNat := by
  rw [BitVec.toNat_ofInt, Int.emod_eq_of_lt h0 (by exact_mod_cast h1)]
theorem orV (k : Nat) (x y : Int) (hx : 0 ≤ x) (hx2 : x < 4611686018427387904) (hm : x % 2 ^ k = 0) (hy : 0 ≤ y) (hy2 : y < 2 ^ k) (hk : k ≤ 62) : orW x y = .int .i64 (x + y) := by
  obtain ⟨a, rfl⟩ := Int.eq_ofNat_of_zero_le hx
  obtain ⟨b, rfl⟩ := Int.eq_ofNat_of_zero_le hy
  have hb : b < 2 ^ k := by exact_mod_cast hy2
  have ha : a % 2 ^ k = 0 := by exact_mod_cast hm
  have hp : (2 : Nat) ^ k ≤ 2 ^ 62 := Nat.pow_le_pow_right (by omega) hk
  have hbig : (2 : Nat) ^ 62 = 4611686018427387904 := by decide
  unfold orW
  rw [BitVec.toNat_or, toNat_ofInt hx (by have : (2 : Int) ^ 64 = 18446744073709551616 := by decide
                                          omega), toNat_ofInt hy (by have : (2 : Int) ^ 64 = 18446744073709551616 := by decide
                                                                     omega)]
  have e : a ||| b = a + b := by
    have h1 : a = 2 ^ k * (a / 2 ^ k) := by have := Nat.div_add_mod a (2 ^ k); omega
    rw [h1, Nat.two_pow_add_eq_or_of_lt hb]
  show Value.int .i64 (IntKind.i64.wrap (((a ||| b : Nat)) : Int)) = _
  rw [e, wrap_id (by omega) (by omega)]
  rfl
theorem andV15 (x : Int) (h0 : 0 ≤ x) (h1 : x < 256) : andW15 x = .int .u8 (x % 16) := by
  obtain ⟨a, rfl⟩ := Int.eq_ofNat_of_zero_le h0
  unfold andW15
  rw [BitVec.toNat_and, toNat_ofInt h0 (by have : (2 : Int) ^ 8 = 256 := by decide
                                           omega)]
  have e : a &&& 15 = a % 16 := Nat.and_two_pow_sub_one_eq_mod a 4
  show Value.int .u8 (IntKind.u8.wrap (((a &&& 15 : Nat)) : Int)) = _
  rw [e, wVu8 _ (by omega) (by omega)]
  rfl
section
variable {d : Den} {t : TypeId} {a b : Value}
theorem aE1 (c : Bool) (hc : c = true) (h : @EQE d Try.prog t a b = some c := by kernel_rfl) : @AK.Ok d Try.prog (.bin .eql t a b) (.bool true) := asEqA h hc
theorem aE0 (c : Bool) (hc : ¬ c = true) (h : @EQE d Try.prog t a b = some c := by kernel_rfl) : @AK.Ok d Try.prog (.bin .eql t a b) (.bool false) := asEqA h (Bool.eq_false_iff.2 hc)
theorem aN1 (c : Bool) (hc : c = true) (h : @EQE d Try.prog t a b = some c := by kernel_rfl) : @AK.Ok d Try.prog (.bin .neq t a b) (.bool false) := asNeA h (by rw [hc]; rfl)
theorem aN0 (c : Bool) (hc : ¬ c = true) (h : @EQE d Try.prog t a b = some c := by kernel_rfl) : @AK.Ok d Try.prog (.bin .neq t a b) (.bool true) := asNeA h (by rw [Bool.eq_false_iff.2 hc]; rfl)
end
structure Rec where
  node : Int
  epoch : Int
  lsn : Int
  page : Int
  psn : Int
  body : Nat → Int
abbrev Sec := Nat → Int
def bodL (a : Nat → Int) : List Value := [.int .u8 (a 0), .int .u8 (a 1), .int .u8 (a 2), .int .u8 (a 3), .int .u8 (a 4), .int .u8 (a 5), .int .u8 (a 6), .int .u8 (a 7), .int .u8 (a 8), .int .u8 (a 9), .int .u8 (a 10), .int .u8 (a 11), .int .u8 (a 12), .int .u8 (a 13), .int .u8 (a 14), .int .u8 (a 15), .int .u8 (a 16), .int .u8 (a 17), .int .u8 (a 18), .int .u8 (a 19), .int .u8 (a 20), .int .u8 (a 21), .int .u8 (a 22), .int .u8 (a 23), .int .u8 (a 24), .int .u8 (a 25), .int .u8 (a 26), .int .u8 (a 27), .int .u8 (a 28), .int .u8 (a 29), .int .u8 (a 30), .int .u8 (a 31), .int .u8 (a 32), .int .u8 (a 33), .int .u8 (a 34), .int .u8 (a 35), .int .u8 (a 36), .int .u8 (a 37), .int .u8 (a 38), .int .u8 (a 39), .int .u8 (a 40), .int .u8 (a 41), .int .u8 (a 42), .int .u8 (a 43), .int .u8 (a 44), .int .u8 (a 45), .int .u8 (a 46), .int .u8 (a 47), .int .u8 (a 48), .int .u8 (a 49), .int .u8 (a 50), .int .u8 (a 51), .int .u8 (a 52), .int .u8 (a 53), .int .u8 (a 54), .int .u8 (a 55), .int .u8 (a 56), .int .u8 (a 57), .int .u8 (a 58), .int .u8 (a 59), .int .u8 (a 60), .int .u8 (a 61), .int .u8 (a 62), .int .u8 (a 63), .int .u8 (a 64), .int .u8 (a 65), .int .u8 (a 66), .int .u8 (a 67), .int .u8 (a 68), .int .u8 (a 69), .int .u8 (a 70), .int .u8 (a 71), .int .u8 (a 72), .int .u8 (a 73), .int .u8 (a 74), .int .u8 (a 75), .int .u8 (a 76), .int .u8 (a 77), .int .u8 (a 78), .int .u8 (a 79), .int .u8 (a 80), .int .u8 (a 81), .int .u8 (a 82), .int .u8 (a 83), .int .u8 (a 84), .int .u8 (a 85), .int .u8 (a 86), .int .u8 (a 87), .int .u8 (a 88), .int .u8 (a 89), .int .u8 (a 90), .int .u8 (a 91), .int .u8 (a 92), .int .u8 (a 93), .int .u8 (a 94), .int .u8 (a 95)]
def recL (r : Rec) : List Value := .int .i64 r.node :: .int .i64 r.epoch :: .int .i64 r.lsn :: .int .i64 r.page :: .int .i64 r.psn :: bodL r.body
def secL (a : Sec) : List Value := [.int .u8 (a 0), .int .u8 (a 1), .int .u8 (a 2), .int .u8 (a 3), .int .u8 (a 4), .int .u8 (a 5), .int .u8 (a 6), .int .u8 (a 7), .int .u8 (a 8), .int .u8 (a 9), .int .u8 (a 10), .int .u8 (a 11), .int .u8 (a 12), .int .u8 (a 13), .int .u8 (a 14), .int .u8 (a 15), .int .u8 (a 16), .int .u8 (a 17), .int .u8 (a 18), .int .u8 (a 19), .int .u8 (a 20), .int .u8 (a 21), .int .u8 (a 22), .int .u8 (a 23), .int .u8 (a 24), .int .u8 (a 25), .int .u8 (a 26), .int .u8 (a 27), .int .u8 (a 28), .int .u8 (a 29), .int .u8 (a 30), .int .u8 (a 31), .int .u8 (a 32), .int .u8 (a 33), .int .u8 (a 34), .int .u8 (a 35), .int .u8 (a 36), .int .u8 (a 37), .int .u8 (a 38), .int .u8 (a 39), .int .u8 (a 40), .int .u8 (a 41), .int .u8 (a 42), .int .u8 (a 43), .int .u8 (a 44), .int .u8 (a 45), .int .u8 (a 46), .int .u8 (a 47), .int .u8 (a 48), .int .u8 (a 49), .int .u8 (a 50), .int .u8 (a 51), .int .u8 (a 52), .int .u8 (a 53), .int .u8 (a 54), .int .u8 (a 55), .int .u8 (a 56), .int .u8 (a 57), .int .u8 (a 58), .int .u8 (a 59), .int .u8 (a 60), .int .u8 (a 61), .int .u8 (a 62), .int .u8 (a 63)]
def verL (p : Int) (b : Nat → Int) : List Value := .int .i64 p :: bodL b
def svs (i : Nat) : Nat → List Value
  | 0 => []
  | n + 1 => sv i :: svs (i + 1) n
abbrev vA (i n : Nat) : Value := .agg (svs i n).toArray
abbrev recV (r : Rec) : Value := .agg (recL r).toArray
abbrev secV (a : Sec) : Value := .agg (secL a).toArray
theorem secL_plain (a : Sec) : (secL a).all plainS = true := rfl
theorem recL_plain (r : Rec) : (recL r).all plainS = true := rfl
def eqN (a b : Nat → Int) : Nat → Nat → Bool
  | 0, _ => true
  | n + 1, i => (a i == b i) && eqN a b n (i + 1)
def eqS (a b : Sec) : Bool := eqN a b 64 0
def eqP (a b c d : Sec) : Bool := eqS a c && (eqS b d && true)
def eqR (r s : Rec) : Bool := (r.node == s.node) && ((r.epoch == s.epoch) && ((r.lsn == s.lsn) && ((r.page == s.page) && ((r.psn == s.psn) && (eqN r.body s.body 96 0 && true)))))
structure May (r : Rec) : Prop where
  n : 0 ≤ r.node ∧ r.node ≤ 7
  p : 0 ≤ r.page ∧ r.page ≤ 15
  e : 1 ≤ r.epoch ∧ r.epoch ≤ 2147483647
  l : 1 ≤ r.lsn ∧ r.lsn ≤ 2147483647
  s : 1 ≤ r.psn ∧ r.psn ≤ 2147483647
def half (r : Rec) (h : Nat) : Sec := fun i =>
  if i = 0 then 177 + h else if i = 1 then (r.node * 16 + r.page) % 256
  else if i = 2 then r.epoch / 16777216 % 256 else if i = 3 then r.epoch / 65536 % 256 else if i = 4 then r.epoch / 256 % 256 else if i = 5 then r.epoch % 256
  else if i = 6 then r.lsn / 16777216 % 256 else if i = 7 then r.lsn / 65536 % 256 else if i = 8 then r.lsn / 256 % 256 else if i = 9 then r.lsn % 256
  else if i = 10 then r.psn / 16777216 % 256 else if i = 11 then r.psn / 65536 % 256 else if i = 12 then r.psn / 256 % 256 else if i = 13 then r.psn % 256
  else if i < 62 then r.body (48 * h + (i - 14)) else 0
def said (a b : Sec) : Rec := ⟨a 1 / 16, a 2 * 16777216 + a 3 * 65536 + a 4 * 256 + a 5, a 6 * 16777216 + a 7 * 65536 + a 8 * 256 + a 9, a 1 % 16, a 10 * 16777216 + a 11 * 65536 + a 12 * 256 + a 13, fun i => if i < 48 then a (14 + i) else if i < 96 then b (14 + (i - 48)) else 0⟩
def Byte (a : Sec) : Prop := ∀ i, 0 ≤ a i ∧ a i < 256
def headS (s e : Int) : Sec := fun i =>
  if i = 0 then 179 else if i = 1 then e / 16777216 % 256 else if i = 2 then e / 65536 % 256 else if i = 3 then e / 256 % 256 else if i = 4 then e % 256
  else if i = 5 then s / 16777216 % 256 else if i = 6 then s / 65536 % 256 else if i = 7 then s / 256 % 256 else if i = 8 then s % 256 else 0
def zeroS : Sec := fun _ => 0
def zeroR : Rec := ⟨0, 0, 0, 0, 0, fun _ => 0⟩
end Go.Proofs.Ytpennfojidpmeaa

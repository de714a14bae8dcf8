import Derived.Test.YtjpgnjaobfbojaaSx44
import Derived.Lib.SlKeysI
import Derived.Maps.Views
import Derived.Sort.EveryDepth
namespace Go.Sx
open Go.Maps

/-! ## The keys of a map, sorted, as a summary -/
def leZ (x y : Int) : Bool := match y - x with
  | .ofNat _ => true
  | .negSucc _ => false
theorem leZ_iff {x y : Int} : leZ x y = true ↔ x ≤ y := by
  unfold leZ
  generalize h : y - x = d
  cases d with
  | ofNat n => simp only [true_iff]; have : (0 : Int) ≤ Int.ofNat n := Int.natCast_nonneg n; omega
  | negSucc n => simp only [Bool.false_eq_true, false_iff]; have : Int.negSucc n < 0 := Int.negSucc_lt_zero n; omega
def insI (x : Int) : List Int → List Int
  | [] => [x]
  | y :: ys => bif leZ x y then x :: y :: ys else y :: insI x ys
def sortI : List Int → List Int
  | [] => []
  | x :: xs => insI x (sortI xs)
theorem insI_perm (x : Int) : ∀ l : List Int, (insI x l).Perm (x :: l)
  | [] => .refl _
  | y :: ys => by
    simp only [insI]
    cases leZ x y with
    | true => exact .refl _
    | false => exact ((insI_perm x ys).cons y).trans (.swap x y ys)
theorem sortI_perm : ∀ l : List Int, (sortI l).Perm l
  | [] => .refl _
  | x :: xs => (insI_perm x (sortI xs)).trans ((sortI_perm xs).cons x)
theorem insI_sorted {x : Int} : ∀ {l : List Int}, l.Pairwise (fun a b => leI a b = true) → (insI x l).Pairwise (fun a b => leI a b = true)
  | [], _ => List.pairwise_singleton _ _
  | y :: ys, h => by
    simp only [insI]
    obtain ⟨h1, h2⟩ := List.pairwise_cons.1 h
    cases hl : leZ x y with
    | true =>
      have hxy := leZ_iff.1 hl
      refine List.pairwise_cons.2 ⟨fun z hz => ?_, h⟩
      rcases List.mem_cons.1 hz with rfl | hz
      · simpa [leI] using hxy
      · have := h1 z hz
        simp only [leI, decide_eq_true_eq] at this ⊢
        omega
    | false =>
      have hxy : ¬ x ≤ y := fun h => by rw [leZ_iff.2 h] at hl; cases hl
      refine List.pairwise_cons.2 ⟨fun z hz => ?_, insI_sorted h2⟩
      rcases List.mem_cons.1 ((insI_perm x ys).mem_iff.1 hz) with rfl | hz
      · simp only [leI, decide_eq_true_eq]; omega
      · exact h1 z hz
theorem sortI_sorted : ∀ l : List Int, (sortI l).Pairwise (fun a b => leI a b = true)
  | [] => .nil
  | _ :: xs => insI_sorted (sortI_sorted xs)
theorem sortI_eq {l l' : List Int} (h : l.Perm l') : l.mergeSort leI = sortI l' := by
  have tr : ∀ a b c : Int, leI a b = true → leI b c = true → leI a c = true := fun a b c h1 h2 => by simp only [leI, decide_eq_true_eq] at *; exact Int.le_trans h1 h2
  have to : ∀ a b : Int, (leI a b || leI b a) = true := fun a b => by simp only [leI, Bool.or_eq_true, decide_eq_true_eq]; exact Int.le_total a b
  refine List.Perm.eq_of_pairwise (le := fun a b => leI a b = true) (fun a b _ _ h1 h2 => ?_) (List.pairwise_mergeSort tr to l) (sortI_sorted l') (((List.mergeSort_perm l leI).trans h).trans (sortI_perm l').symm)
  simp only [leI, decide_eq_true_eq] at h1 h2
  exact Int.le_antisymm h1 h2

/-- A number of 64 bits. -/
def in64 (x : Int) : Bool := leZ (-9223372036854775808) x && leZ x 9223372036854775807
def keysI : List (Value × Value) → Option (List Int)
  | [] => some []
  | (k, _) :: l => match k with
    | .int .i64 n => bif in64 n then (match keysI l with
      | some ks => some (n :: ks)
      | none => none) else none
    | _ => none
def nodupI : List Int → Bool
  | [] => true
  | x :: xs => !(xs.any fun y => leZ x y && leZ y x) && nodupI xs
def nodupN : List Nat → Bool
  | [] => true
  | x :: xs => !(xs.any (Nat.beq x)) && nodupN xs
theorem nodupI_ok : ∀ {l : List Int}, nodupI l = true → l.Nodup
  | [], _ => .nil
  | x :: xs, h => by
    simp only [nodupI, Bool.and_eq_true, Bool.not_eq_true'] at h
    refine List.nodup_cons.2 ⟨fun hm => ?_, nodupI_ok h.2⟩
    have : (xs.any fun y => leZ x y && leZ y x) = true := List.any_eq_true.2 ⟨x, hm, by rw [leZ_iff.2 (Int.le_refl x)]; rfl⟩
    rw [h.1] at this; cases this
theorem nodupN_ok : ∀ {l : List Nat}, nodupN l = true → l.Nodup
  | [], _ => .nil
  | x :: xs, h => by
    simp only [nodupN, Bool.and_eq_true, Bool.not_eq_true'] at h
    refine List.nodup_cons.2 ⟨fun hm => ?_, nodupN_ok h.2⟩
    have : (xs.any (Nat.beq x)) = true := List.any_eq_true.2 ⟨x, hm, Nat.beq_refl x⟩
    rw [h.1] at this; cases this
noncomputable section
/-- The keys of a map, sorted: a new row. -/
def sortedA (T : TypeId) (v : Value) : M Value := match v with
  | .map none => M.pure (.slice none 0 0)
  | .map (some i) => M.bind (mapGet i) fun mp => M.bind (optM 802 (keysI mp.es)) fun ks =>
      M.bind (guardM 803 (Nat.ble (lenL ks) 1000 && nodupI ks && nodupN mp.bs && mp.bs.all fun b => Nat.blt b mp.clk)) fun _ => (match sortI ks with
        | [] => M.pure (.slice none 0 0)
        | x :: xs => M.bind (newA (.row T (mkCells ((x :: xs).map (Value.int .i64))) false)) fun j => M.pure (.slice (some ⟨j, 0, none⟩) (lenL (x :: xs)) INF))
  | _ => M.bad 800
/-- A method whose receiver's first cell is the map. -/
def pagesA (T : TypeId) (args : List Value) : M Value := match args with
  | [.pointer none] => M.pure (.slice none 0 0)
  | [.pointer (some ⟨i, o, none⟩)] => M.bind (rd i o) (sortedA T)
  | _ => M.bad 801
end
theorem Local.sortedA (T : TypeId) (v : Value) : Local (sortedA T v) := by
  unfold Sx.sortedA
  split
  · exact Local.pure _
  · refine Local.bind (Local.mapGet _) fun mp => Local.bind (Local.opt _ _) fun ks => Local.bind (Local.guard _ _) fun _ => ?_
    split
    · exact Local.pure _
    · exact Local.bind (Local.newA _) fun _ => Local.pure _
  · exact Local.bad _
theorem Local.pagesA (T : TypeId) (args : List Value) : Local (pagesA T args) := by
  unfold Sx.pagesA
  split
  · exact Local.pure _
  · exact Local.bind (Local.rd _ _) fun _ => Local.sortedA _ _
  · exact Local.bad _
theorem Touch.sortedA (T : TypeId) (v : Value) : Touch (sortedA T v) := by
  unfold Sx.sortedA
  split
  · exact Touch.pure _
  · refine Touch.bind (Touch.mapGet _) fun mp => Touch.bind (Touch.opt _ _) fun ks => Touch.bind (Touch.guard _ _) fun _ => ?_
    split
    · exact Touch.pure _
    · exact Touch.bind (Touch.newA _) fun _ => Touch.pure _
  · exact Touch.bad _
theorem Touch.pagesA (T : TypeId) (args : List Value) : Touch (pagesA T args) := by
  unfold Sx.pagesA
  split
  · exact Touch.pure _
  · exact Touch.bind (Touch.rd _ _) fun _ => Touch.sortedA _ _
  · exact Touch.bad _

/-! ## Its soundness -/
/-- A contract at every depth, carried into a fence that lets everything in. -/
theorem callsIn_every {P : Program} {f : FuncId} {args : Array Value} {w : World} {R : Ending → World → Prop} {l : List FuncId} {n m : Nat} {Fe : Fence} (hW : Wd Fe) (h : ∀ D : Nat, CallsIn (Fence.list l (some D)) n P f args w R) : CallsIn Fe m P f args w R :=
  ⟨hW.1 f, fun cs _ =>
    let ⟨e, w', fr, r, s, x⟩ := (h (cs.length + 1 + n)).2 cs (fun _ hd => by cases hd; exact Nat.le_refl _)
    ⟨e, w', fr, r, ComesIn.mono (fun _ hm g hg => let ⟨a, _, _, _⟩ := hm g hg; ⟨fun _ => a rfl, .inl (hW.1 _), fun k _ => hW.1 k, fun d hd => by rw [hW.2] at hd; cases hd⟩) s, x⟩⟩
theorem callsIn_room {P : Program} {f : FuncId} {args : Array Value} {w : World} {R : Ending → World → Prop} {n m : Nat} {Fe : Fence} (hW : Wd Fe) (h : CallsIn Fe.plain n P f args w R) : CallsIn Fe m P f args w R :=
  ⟨hW.1 f, fun cs _ => h.2 cs (fun d hd => by have : Fe.depth = some d := hd; rw [hW.2] at this; cases this)⟩
/-- What is asked of the program: a method that hands back the sorted keys of the map in its receiver's first cell. -/
structure PagesC (P : Program) (g : FuncId) (T k : TypeId) : Prop where
  callable : Callable P g
  key : P.underlying k = some (.int .i64)
  one : ∀ n, sizeB P T = some n → n = 1
  nilP : ∀ Fe w, Wd Fe → Fe.round = none → CallsIn Fe 8 P g #[.pointer none] w fun e w' => e = .returned (.slice none 0 0) ∧ Go.RowKit.Below w.heap.size w w'
  nilM : ∀ Fe w a, Wd Fe → Fe.round = none → w.cell? a = some (.map none) → CallsIn Fe 8 P g #[.pointer (some a)] w fun e w' => e = .returned (.slice none 0 0) ∧ Go.RowKit.Below w.heap.size w w'
  some : ∀ Fe w a b nn (D0 : DataW Unit), Wd Fe → Fe.round = none → w.cell? a = some (.map (some b)) → w.ownsMap P k (fun _ => some (.nil, [])) b nn D0 → size D0 ≤ 1000 →
    CallsIn Fe 8 P g #[.pointer (some a)] w fun e w' => ∃ v ss, e = .returned v ∧ ss.Perm (intKeys D0) ∧ w'.ownsRow w.heap.size T 1 v ss.length ((ss.mergeSort leI).map encZ) ∧ (v = .slice none 0 0 ↔ ss = []) ∧ Go.RowKit.Below w.heap.size w w'
theorem keysI_inv : ∀ {es : List (Value × Value)} {ks : List Int}, keysI es = some ks → es.map (·.1) = ks.map encZ ∧ ∀ x ∈ ks, in64 x = true
  | [], ks, h => by cases h; exact ⟨rfl, fun _ h => by cases h⟩
  | (k, v) :: l, ks, h => by
    simp only [keysI] at h
    split at h
    · rename_i n
      cases hb : in64 n with
      | false => rw [hb] at h; cases h
      | true =>
        rw [hb] at h
        simp only [cond_true] at h
        cases hk : keysI l with
        | none => rw [hk] at h; cases h
        | some ks' =>
          rw [hk] at h
          cases h
          obtain ⟨h1, h2⟩ := keysI_inv hk
          refine ⟨by simp [h1], fun x hx => ?_⟩
          rcases List.mem_cons.1 hx with rfl | hx
          · exact hb
          · exact h2 x hx
    · cases h
theorem in64_wf {x : Int} (h : in64 x = true) : (Lit.int .i64 x).wf = true := by
  simp only [in64, Bool.and_eq_true, leZ_iff] at h
  simp [Lit.wf, IntKind.min, IntKind.max, IntKind.signed, IntKind.bits]
  omega
theorem PR.keys [Den] {E : Env} : ∀ {es : List (Value × Value)} {ents : List MapEntry} {ks : List Int}, PR E es ents → es.map (·.1) = ks.map encZ → ents.map (·.key) = ks.map encZ
  | [], _, ks, h, hk => by
    cases h
    cases ks with
    | nil => rfl
    | cons x xs => cases hk
  | (a, b) :: es, _, ks, h, hk => by
    cases h with
    | cons h1 h2 h3 =>
      cases ks with
      | nil => cases hk
      | cons x xs =>
        simp only [List.map_cons, List.cons.injEq] at hk
        rw [hk.1] at h1
        have : ∀ {u : Value}, VR E (encZ x) u → u = encZ x := fun hu => by cases hu; rfl
        simp only [List.map_cons, List.cons.injEq]
        exact ⟨this h1, PR.keys h3 hk.2⟩
section
variable {P : Program} {w0 : World} {F : Nat → Prop}
/-- The map of an abstract heap, as the kit reads one of int keys. -/
theorem owns_of {k : TypeId} (hk : P.underlying k = some (.int .i64)) {w : World} {b : Nat} {ents : Array MapEntry} {clk : Nat} {ks : List Int} (hb : w.heap[b]? = some (.map ents clk)) (hkeys : ents.toList.map (·.key) = ks.map encZ) (hin : ∀ x ∈ ks, in64 x = true) (hnd : ks.Nodup)
    (hborn : (ents.toList.map (·.born)).Nodup) (hlt : ∀ x ∈ ents.toList, x.born < clk) (hlen : ks.length ≤ 1000) :
    ∃ D0 : DataW Unit, w.ownsMap P k (fun _ => some (.nil, [])) b ents.size D0 ∧ size D0 ≤ 1000 ∧ (intKeys D0).Perm ks := by
  have hsz : ents.size = ks.length := by
    have := congrArg List.length hkeys
    simpa using this
  have hread : ∀ x ∈ ents.toList, ∃ n, x.key = encZ n ∧ Go.WideElems.rd (H := Unit) P k (fun _ => some (.nil, [])) x = some (.int .i64 n, .nil) := fun x hx => by
    have : x.key ∈ ks.map encZ := by rw [← hkeys]; exact List.mem_map_of_mem hx
    obtain ⟨n, hn, he⟩ := List.mem_map.1 this
    refine ⟨n, he.symm, ?_⟩
    have hkey : keyOf P k x.key = some (.int .i64 n) := by
      rw [← he]
      simp [keyOf, mapKey, hk, encZ, in64_wf (hin n hn)]
    simp [Go.WideElems.rd, hkey]
  have hkn : (ents.toList.map (·.key)).Nodup := by
    rw [hkeys]
    exact List.Pairwise.map _ (fun a b hne he => hne (encZ_inj he)) hnd
  refine ⟨.map ((ents.toList.map (Go.WideElems.rg P k (fun _ => some (.nil, [])))).foldr DataW.insert []), ⟨ents, clk, hb, ⟨?_, ⟨hlt, hborn, hkn⟩, fun x hx => let ⟨n, _, h⟩ := hread x hx; ⟨_, h⟩⟩, Nat.le_refl _, rfl⟩, ?_, ?_⟩
  · rw [hsz]; have : maxLen = 9223372036854775807 := rfl; omega
  · rw [size_eq, (Go.WideShapes.sorted_perm _).length_eq]; simp [hsz, hlen]
  · show (List.map _ _).Perm ks
    refine ((Go.WideShapes.sorted_perm _).map _).trans ?_
    rw [List.map_map]
    have : ∀ (l : List MapEntry) (ns : List Int), (∀ x ∈ l, ∃ n, x.key = encZ n ∧ Go.WideElems.rd (H := Unit) P k (fun _ => some (.nil, [])) x = some (.int .i64 n, .nil)) → l.map (·.key) = ns.map encZ → l.map ((fun p => intOf p.1) ∘ Go.WideElems.rg (H := Unit) P k (fun _ => some (.nil, []))) = ns := by
      intro l
      induction l with
      | nil => intro ns _ he; cases ns with
        | nil => rfl
        | cons => cases he
      | cons x l ih =>
        intro ns hr he
        cases ns with
        | nil => cases he
        | cons n ns =>
          simp only [List.map_cons, List.cons.injEq] at he ⊢
          obtain ⟨m, h1, h2⟩ := hr x List.mem_cons_self
          refine ⟨?_, ih ns (fun y hy => hr y (List.mem_cons_of_mem _ hy)) he.2⟩
          have : m = n := encZ_inj (h1.symm.trans he.1)
          subst this
          simp [Go.WideElems.rg_of h2, intOf]
    rw [this _ ks hread hkeys]
theorem pages_sound [Den] {g : FuncId} {T k : TypeId} (hc : PagesC P g T k) {args : List Value} {c : Nat} {H : Heap} {v : Value} {c' : Nat} {H' : Heap} {L : Lg} (h : pagesA T args c H = .ok v c' H' L) {E : Env} {w : World} {args' : List Value} (hr : HR P w0 F E H w) (hl : LR E args args') {Fe : Fence} (n : Nat) (hW : Wd Fe) :
    CallsIn Fe n P g args'.toArray w (fun e w' => ∃ v' E', e = .returned v' ∧ E.le E' ∧ HR P w0 F E' H' w' ∧ VR E' v v') := by
  have hWp : Wd Fe.plain := hW
  refine callsIn_room (n := 8) hW ?_
  unfold pagesA at h
  split at h
  · obtain ⟨q1, q2, q3, _⟩ := pure_ok.1 h
    subst q1 q2 q3
    obtain ⟨y, ys, rfl, hy, hys⟩ := hl.cons_inv
    have := hys.nil_inv
    subst this
    cases hy
    exact (hc.nilP Fe.plain w hWp rfl).mono fun e w' ⟨k1, k2⟩ => ⟨_, E, k1, E.le_refl, hr.below k2, .nilS⟩
  · rename_i i o
    obtain ⟨y, ys, rfl, hy, hys⟩ := hl.cons_inv
    have := hys.nil_inv
    subst this
    obtain ⟨mv, c1, h1, l1, l2, hrd, hs, _⟩ := bind_ok.1 h
    cases hy with
    | ptr he =>
      rename_i e
      obtain ⟨mv', hcell, hmv, _⟩ := rd_sound hr hrd he
      obtain ⟨q1, q2, -⟩ := rd_inv hrd
      subst q1 q2
      unfold sortedA at hs
      split at hs
      · obtain ⟨q1, q2, q3, _⟩ := pure_ok.1 hs
        subst q1 q2 q3
        cases hmv
        exact (hc.nilM Fe.plain w _ hWp rfl hcell).mono fun e w' ⟨k1, k2⟩ => ⟨_, E, k1, E.le_refl, hr.below k2, .nilS⟩
      · rename_i m
        obtain ⟨mp, c2, h2, _, _, hm, hs1, -⟩ := bind_ok.1 hs
        obtain ⟨ks, c3, h3, _, _, hks, hs2, -⟩ := bind_ok.1 hs1
        obtain ⟨_, c4, h4, _, _, hg, hs3, -⟩ := bind_ok.1 hs2
        obtain ⟨q1, q2, hmi⟩ := mapGet_inv hm
        subst q1 q2
        obtain ⟨hks2, q1, q2, _⟩ := opt_ok.1 hks
        subst q1 q2
        obtain ⟨hg2, q1, q2, _⟩ := guard_ok.1 hg
        subst q1 q2
        simp only [Bool.and_eq_true, List.all_eq_true] at hg2
        obtain ⟨⟨⟨g1, g2⟩, g3⟩, g4⟩ := hg2
        obtain ⟨e2, ents, clock, k1, k2, k3, k4, k5⟩ := hr.obj m _ hmi
        cases hmv with
        | map hE =>
          rw [k1] at hE
          cases hE
          obtain ⟨i1, i2⟩ := keysI_inv hks2
          obtain ⟨D0, hown, hsz, hperm⟩ := owns_of hc.key k2 (PR.keys k3 i1) i2 (nodupI_ok g2) (by rw [k4]; exact nodupN_ok g3) (fun x hx => by
            rw [k5]
            have := g4 x.born (by rw [← k4]; exact List.mem_map_of_mem hx)
            simpa [Nat.blt_eq] using this) (by simpa [lenL_eq] using g1)
          refine (hc.some Fe.plain w _ _ _ D0 hWp rfl hcell hown hsz).mono ?_
          rintro _ w' ⟨v1, ss, rfl, hss, hrow, hnil, hb⟩
          have hsort : ss.mergeSort leI = sortI ks := sortI_eq (hss.trans hperm)
          have hlen : ss.length = (sortI ks).length := by rw [← hsort, List.length_mergeSort]
          cases hsk : sortI ks with
          | nil =>
            rw [hsk] at hs3 hlen
            obtain ⟨q1, q2, q3, _⟩ := pure_ok.1 hs3
            subst q1 q2 q3
            rw [hnil.2 (List.eq_nil_of_length_eq_zero hlen)]
            exact ⟨_, E, rfl, E.le_refl, hr.below hb, .nilS⟩
          | cons x xs =>
            rw [hsk] at hs3 hlen hsort
            obtain ⟨j, c5, h5, _, _, hn, hs4, -⟩ := bind_ok.1 hs3
            obtain ⟨q1, q2, hfree, q4, _⟩ := newA_inv hn
            subst q1 q2 q4
            obtain ⟨q1, q2, q3, _⟩ := pure_ok.1 hs4
            subst q1 q2 q3
            rcases hrow.2 with ⟨_, hz⟩ | ⟨gb, cap, cur, rfl, hbase, hgb, r1, r2, r3, r4⟩
            · rw [hlen] at hz; cases hz
            rw [hsort] at r4
            obtain ⟨hle, hr'⟩ := HR.adopt (T := T) (cs := (x :: xs).map (Value.int .i64)) (cells := cur) (e := ⟨gb, 0, cap⟩) (w' := w') (hr.below hb) hfree
              (fun i o y hi hlv hy => Nat.ne_of_lt (Nat.lt_of_lt_of_le (hr.blk_lt hi hlv hy) hbase)) (.inl (Nat.le_trans hr.keeps.size hbase)) rfl rfl rfl rfl (fun _ _ => rfl) (.plain hgb)
              ⟨fun n hn => by
                have := hc.one n hn
                subst this
                rw [mkCells_len]
                simp only [List.length_map, Nat.div_one, Nat.mul_one, Nat.zero_add] at *
                exact ⟨by omega, by omega⟩, fun k u hk => by
                rw [mkCells_get] at hk
                have hk2 : (cur.toList.take (ss.length * 1))[k]? = some u := by rw [r4]; exact hk
                have hk3 : cur.toList[k]? = some u := by
                  rw [List.getElem?_take] at hk2
                  split at hk2
                  · exact hk2
                  · cases hk2
                refine ⟨u, by simpa using hk3, ?_, ?_⟩
                · rw [List.getElem?_map, Option.map_eq_some_iff] at hk
                  obtain ⟨z, _, rfl⟩ := hk
                  exact .int _ _
                · rw [List.getElem?_map, Option.map_eq_some_iff] at hk
                  obtain ⟨z, _, rfl⟩ := hk
                  rfl⟩
            have hcap : capOf ⟨gb, 0, cap⟩ INF = cap := by
              have : ¬ INF < HALF := by decide
              simp [capOf, this]
            refine ⟨_, _, rfl, hle, hr', ?_⟩
            have hl2 : lenL (x :: xs) = ss.length := by rw [lenL_eq, hlen]
            rw [hl2]
            have := VR.sl (E := E.upd j ⟨gb, 0, cap⟩) (i := j) (o := 0) (n := ss.length) (c := INF) (e := ⟨gb, 0, cap⟩) (a' := ⟨gb, 0, none⟩) (by simp [Env.upd]) (by rw [hcap]; exact r1) (.inl rfl)
            rw [hcap] at this
            exact this
      · exact (bad_ok.1 hs).elim
  · exact (bad_ok.1 h).elim
end

/-- The table of one such method. -/
noncomputable def tblPages (g : FuncId) (T : TypeId) : Tbl := fun k => bif Nat.beq k g then some (pagesA T) else none
theorem tblPages_inv {g k : FuncId} {T : TypeId} {m : List Value → M Value} (h : tblPages g T k = some m) : k = g ∧ m = pagesA T := by
  unfold tblPages at h
  cases hb : Nat.beq k g with
  | false => rw [hb] at h; cases h
  | true => rw [hb] at h; cases h; exact ⟨Nat.eq_of_beq_eq_true hb, rfl⟩
theorem tblPages_true [Den] {P : Program} {g : FuncId} {T k : TypeId} (hc : PagesC P g T k) : TblTrue P (tblPages g T) := fun w0 F k m hk => by
  obtain ⟨rfl, rfl⟩ := tblPages_inv hk
  exact ⟨fun args => Local.pagesA T args, fun args c H v c' H' L h => ⟨hc.callable, fun E w args' hr hl Fe n hW => pages_sound hc h hr hl n hW⟩⟩
theorem tblPages_local (g : FuncId) (T : TypeId) : ∀ k m args, tblPages g T k = some m → Local (m args) := fun k m args hk => by
  obtain ⟨_, rfl⟩ := tblPages_inv hk
  exact Local.pagesA T args
theorem tblPages_touch (g : FuncId) (T : TypeId) : ∀ k m args, tblPages g T k = some m → Touch (m args) := fun k m args hk => by
  obtain ⟨_, rfl⟩ := tblPages_inv hk
  exact Touch.pagesA T args
/-- A law of no arguments, by its segments, a table being known. -/
theorem closed_segT {P : Program} (hm : P.follows .mixedOrders = true) {tbl : Tbl} (ht : TblTrue P tbl) {g : FuncId} (hg0 : tbl g = none) {x : MC} (hs : mstart P g = some x) (hg : Gd P tbl x) (w : World) :
    Calls P g #[] w fun e w' => e = .returned (.bool true) ∧ Go.RowKit.Below w.heap.size w w' := by
  obtain ⟨n, h⟩ := start_sound hs hg0 hg
  exact closed_by hm ht h w
theorem seg_stepP {P : Program} {pg : FuncId} {T : TypeId} {N n : Nat} {x y : MC} (hr : (mrun P (tblPages pg T) N n x.m x.k x.c x.h).map (mcut y.h) = some y) (hg : Gd P (tblPages pg T) y) : Gd P (tblPages pg T) x := seg_sound (tblPages_local pg T) (tblPages_touch pg T) hr hg
theorem seg_endP {P : Program} {pg : FuncId} {T : TypeId} {N n : Nat} {x : MC} (hr : endB (mrun P (tblPages pg T) N n x.m x.k x.c x.h) = true) : Gd P (tblPages pg T) x := end_sound (tblPages_touch pg T) hr
end Go.Sx

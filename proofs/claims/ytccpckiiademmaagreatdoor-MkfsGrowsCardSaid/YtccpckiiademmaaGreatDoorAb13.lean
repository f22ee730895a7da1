/-
  ABSTRACT HEAPS, part 13: a region that draws its order: one walk, in the order of the text, with looks that make it good for all.
-/
import Derived.Test.YtccpckiiademmaaGreatDoorAb12
set_option linter.unusedSimpArgs false
namespace Go.Ab

structure OI where
  isC : Bool
  fp : List Nat
  wr : List Nat
  lo : Nat
  hi : Nat

structure Rec where
  o : Oper
  f : Fr
  S : St
  want : Bool
  v : Value
  ro : Nat
  T : Tr Blk
  S1 : St
  S' : St
  oi : OI

def maskOf (acc : List Nat) (o : Oper) : Nat :=
  o.after.toList.foldl (fun s e => if Region.binds .any e then s ||| (2 ^ e.on ||| (acc[e.on]?).getD 0) else s) 0

def masksGo : List Oper → List Nat → List Nat
  | [], acc => acc
  | o :: rest, acc => masksGo rest (acc ++ [maskOf acc o])

def blocksOf (v : Value) : List Nat :=
  match v with
  | .pointer (some a) => [a.block]
  | .slice (some a) _ _ => [a.block]
  | .map (some b) => [b]
  | _ => []

def blocksAll (f : Fr) : List Operand → List Nat
  | [] => []
  | x :: xs => match aval f x with
    | some v => blocksOf v ++ blocksAll f xs
    | none => blocksAll f xs

/-- The blocks of two pointers, where there are two. -/
def bothPtr (f : Fr) (x y : Operand) : List Nat :=
  match aval f x, aval f y with
  | some (.pointer (some a)), some (.pointer (some b)) => [a.block, b.block]
  | some (.agg _), _ => blocksAll f [x, y]
  | some (.iface _ _), _ => blocksAll f [x, y]
  | _, _ => []

/-- The blocks of maps. -/
def mapsAll (f : Fr) : List Operand → List Nat
  | [] => []
  | x :: xs => match aval f x with
    | some (.map (some b)) => b :: mapsAll f xs
    | _ => mapsAll f xs

def opFp (f : Fr) (o : Oper) : List Nat × Bool :=
  match o.op with
  | .load _ x => (blocksAll f [x], false)
  | .store _ x _ => (blocksAll f [x], true)
  | .lookup _ m _ _ => (blocksAll f [m], false)
  | .mapUpdate _ m _ _ => (blocksAll f [m], true)
  | .convert s d x => (blocksAll f [x], Nat.beq s d)
  | .range _ x => (blocksAll f [x], false)
  | .next x _ => (blocksAll f [x], true)
  | .entry x => (blocksAll f [x], false)
  | .binOp _ _ x y _ => (bothPtr f x y, false)
  | .call c => match c.callee with
    | .builtin b => match b with
      | .append | .copy | .delete => (blocksAll f c.args.toList, true)
      | .len => (mapsAll f c.args.toList, false)
      | _ => ([], false)
    | _ => ([], false)
  | _ => ([], false)

def isCallOp (o : Oper) : Bool :=
  match o.op with
  | .call c => match c.callee with
    | .value _ => true
    | .invoke .. => true
    | _ => false
  | _ => false

/-- Those names' blocks out of t, laid over h. -/
def setMany (h t : Tr Blk) : List Nat → Tr Blk
  | [] => h
  | n :: ns => setMany (h.set n (t.get n)) t ns

theorem setMany_get (t : Tr Blk) : ∀ (ns : List Nat) (h : Tr Blk) (n : Nat), (setMany h t ns).get n = if n ∈ ns then t.get n else h.get n
  | [], h, n => by simp [setMany]
  | m :: ns, h, n => by
    rw [setMany, setMany_get t ns]
    by_cases h1 : n ∈ ns
    · simp [h1]
    · rw [if_neg h1, Tr.get_set]
      by_cases h2 : n = m
      · subst h2; simp
      · simp [h2, h1]

def eraseMany (h : Tr Blk) : List Nat → Tr Blk
  | [] => h
  | n :: ns => eraseMany (h.set n none) ns

theorem eraseMany_get : ∀ (ns : List Nat) (h : Tr Blk) (n : Nat), (eraseMany h ns).get n = if n ∈ ns then none else h.get n
  | [], h, n => by simp [eraseMany]
  | m :: ns, h, n => by
    rw [eraseMany, eraseMany_get ns]
    by_cases h1 : n ∈ ns
    · simp [h1]
    · rw [if_neg h1, Tr.get_set]
      by_cases h2 : n = m
      · subst h2; simp
      · simp [h2, h1]

def inR (n lo hi : Nat) : Bool := Nat.ble lo n && Nat.blt n hi

def namesOf (lo hi : Nat) : List Nat := List.range' lo (hi - lo)

theorem mem_namesOf {lo hi n : Nat} : n ∈ namesOf lo hi ↔ lo ≤ n ∧ n < hi := by
  unfold namesOf; rw [List.mem_range'_1]; omega
theorem inR_eq {n lo hi : Nat} : inR n lo hi = true ↔ lo ≤ n ∧ n < hi := by
  unfold inR; rw [ble_eq, blt_eq]; simp

/-- All keys are below n. -/
def bnd {α : Type} : Tr α → Nat → Bool
  | .nil, _ => true
  | .node l v r, n => (match v with
    | none => true
    | some _ => Nat.blt 0 n) && (bnd l (n / 2) && bnd r ((n - 1) / 2))

theorem bnd_spec {α : Type} : ∀ (t : Tr α) (n k : Nat) (x : α), bnd t n = true → t.get k = some x → k < n
  | .nil, n, k, x, _, h => by simp [Tr.get] at h
  | .node l v r, n, k, x, hb, h => by
    simp only [bnd, Bool.and_eq_true] at hb
    obtain ⟨h1, h2, h3⟩ := hb
    simp only [Tr.get, cond_beq] at h
    by_cases hk : k = 0
    · rw [if_pos hk] at h
      subst h
      simp only [blt_eq, decide_eq_true_eq] at h1
      omega
    · rw [if_neg hk] at h
      by_cases hm : k % 2 = 1
      · rw [if_pos hm] at h
        have := bnd_spec l _ _ _ h2 h
        omega
      · rw [if_neg hm] at h
        have := bnd_spec r _ _ _ h3 h
        omega

def disj (xs ys : List Nat) : Bool := xs.all fun x => !(ys.any (Nat.beq x))
theorem disj_spec {xs ys : List Nat} (h : disj xs ys = true) {n : Nat} (hx : n ∈ xs) (hy : n ∈ ys) : False := by
  unfold disj at h
  have := List.all_eq_true.1 h n hx
  have h2 : ys.any (Nat.beq n) = true := List.any_eq_true.2 ⟨n, hy, by simp⟩
  rw [h2] at this
  cases this

def compat (x y : OI) : Bool :=
  match x.isC, y.isC with
  | true, true => false
  | true, false => y.wr.isEmpty && y.fp.all (fun n => !(inR n x.lo x.hi))
  | false, true => x.wr.isEmpty
  | false, false => disj x.wr y.fp && (disj y.wr x.fp && y.fp.all (fun n => !(inR n x.lo x.hi)))

/-- Those of the earlier ones that no edge orders. -/
def unord (m : Nat) : Nat → List Rec → List Rec
  | _, [] => []
  | i, r :: rs => cond (m.testBit i) (unord m (i + 1) rs) (r :: unord m (i + 1) rs)

theorem mem_unord {m : Nat} : ∀ {k : Nat} {rs : List Rec} {i : Nat} {r : Rec}, rs[i]? = some r → m.testBit (k + i) = false → r ∈ unord m k rs
  | k, [], i, r, h, _ => by simp at h
  | k, x :: xs, 0, r, h, hm => by
    simp at h
    subst h
    simp only [unord]
    rw [show m.testBit k = false by simpa using hm]
    simp
  | k, x :: xs, i + 1, r, h, hm => by
    have ih := mem_unord (m := m) (k := k + 1) (rs := xs) (i := i) (r := r) (by simpa using h) (by rw [show k + 1 + i = k + (i + 1) by omega]; exact hm)
    simp only [unord]
    cases m.testBit k
    · exact List.mem_cons_of_mem _ ih
    · exact ih

def erasedOf : List Rec → List Nat
  | [] => []
  | r :: rs => namesOf r.oi.lo r.oi.hi ++ erasedOf rs

theorem mem_erasedOf {r : Rec} {n : Nat} : ∀ {rs : List Rec}, r ∈ rs → r.oi.lo ≤ n → n < r.oi.hi → n ∈ erasedOf rs
  | [], h, _, _ => by simp at h
  | x :: xs, h, h1, h2 => by
    simp only [erasedOf, List.mem_append]
    rcases List.mem_cons.1 h with rfl | h
    · exact .inl (mem_namesOf.2 ⟨h1, h2⟩)
    · exact .inr (mem_erasedOf h h1 h2)

def lexOK (k : Nat) (o : Oper) : Bool := o.after.toList.all fun e => !(Region.binds .any e) || Nat.blt e.on k
def guardOK (o : Oper) : Bool :=
  match o.guard with
  | none => true
  | some (j, _) => o.after.toList.any fun e => Nat.beq e.on j && Region.binds .any e

section
variable (P : Program) (okS : Kn) (call : ACall) (ro : Nat) (ops : Array Oper)

/-- The step itself. -/
def mkStep (solo : Bool) (f : Fr) (S : St) (un : List Rec) (o : Oper) : Option Rec :=
  cond (isCallOp o)
    (cond (solo && (un.isEmpty && bnd S.h S.next))
    (match astep P okS call ro f S o with
    | some (v, S1) => cond (Nat.ble S.next S1.next && bnd S1.h S1.next) (some ⟨o, f, S, true, v, ro, S.h, S1, S1, ⟨false, namesOf 0 S.next, namesOf 0 S.next, S.next, S1.next⟩⟩) none
    | none => none)
    (match astep P okS call S.next f ⟨eraseMany S.h (erasedOf un), S.next⟩ o with
    | some (v, S1) => cond (Nat.ble S.next S1.next) (some ⟨o, f, S, true, v, S.next, eraseMany S.h (erasedOf un), S1, ⟨setMany S.h S1.h (namesOf S.next S1.next), S1.next⟩, ⟨true, [], [], S.next, S1.next⟩⟩) none
    | none => none))
    (match opFp f o with
    | (fp, true) => match astep P okS call ro f ⟨setMany .nil S.h fp, S.next⟩ o with
      | some (v, S1) => cond (Nat.ble S.next S1.next && fp.all (Nat.blt · S.next)) (some ⟨o, f, S, true, v, ro, setMany .nil S.h fp, S1, ⟨setMany S.h S1.h (fp ++ namesOf S.next S1.next), S1.next⟩, ⟨false, fp, fp, S.next, S1.next⟩⟩) none
      | none => none
    | (fp, false) => match astep P okS call S.next f ⟨setMany .nil S.h fp, S.next⟩ o with
      | some (v, S1) => cond (Nat.ble S.next S1.next && fp.all (Nat.blt · S.next)) (some ⟨o, f, S, true, v, S.next, setMany .nil S.h fp, S1, ⟨setMany S.h S1.h (namesOf S.next S1.next), S1.next⟩, ⟨false, fp, [], S.next, S1.next⟩⟩) none
      | none => none)

def mkRec (masks : List Nat) (f : Fr) (S : St) (prev : List Rec) (o : Oper) : Option Rec :=
  cond (lexOK prev.length o && (guardOK o && (unord ((masks[prev.length]?).getD 0) 0 prev).all fun x => x.o.apart ops o))
    (cond (awanted ops o f)
      (match mkStep P okS call ro ((masks.drop (prev.length + 1)).all (·.testBit prev.length)) f S (unord ((masks[prev.length]?).getD 0) 0 prev) o with
      | some r => cond ((unord ((masks[prev.length]?).getD 0) 0 prev).all fun x => compat x.oi r.oi) (some r) none
      | none => none)
      (some ⟨o, f, S, false, undef, ro, .nil, ⟨.nil, S.next⟩, S, ⟨false, [], [], S.next, S.next⟩⟩))
    none

def adrawGo (masks : List Nat) : List Oper → Fr → St → List Rec → Option (Fr × St)
  | [], f, S, _ => some (f, S)
  | o :: rest, f, S, prev =>
    match mkRec P okS call ro ops masks f S prev o with
    | some r => adrawGo masks rest (f.put o.dst r.v) r.S' (prev ++ [r])
    | none => none

def adraw (f : Fr) (S : St) : Option (Fr × St) := cond (Region.noSelect ops) (adrawGo P okS call ro ops (masksGo ops.toList []) ops.toList f S []) none
end

/-! ### what a record says -/

/-- What it turns, of the names. -/
def Rec.ch (r : Rec) (n : Nat) : Bool := r.want && (r.oi.wr.any (Nat.beq n) || inR n r.S.next r.S'.next)

theorem Rec.ch_eq {r : Rec} {n : Nat} : r.ch n = true ↔ r.want = true ∧ (n ∈ r.oi.wr ∨ (r.S.next ≤ n ∧ n < r.S'.next)) := by
  unfold Rec.ch
  rw [Bool.and_eq_true, Bool.or_eq_true, inR_eq, List.any_eq_true]
  constructor
  · rintro ⟨h1, h2⟩
    refine ⟨h1, h2.imp ?_ id⟩
    rintro ⟨x, hx, he⟩
    have := Nat.eq_of_beq_eq_true he
    subst this; exact hx
  · rintro ⟨h1, h2⟩
    refine ⟨h1, h2.imp ?_ id⟩
    intro h; exact ⟨n, h, by simp⟩

/-- Facts of one record. -/
structure Rec.Good (P : Program) (okS : Kn) (call : ACall) (ro : Nat) (un : List Rec) (r : Rec) : Prop where
  le : r.S.next ≤ r.S'.next
  lohi : r.oi.lo = r.S.next ∧ r.oi.hi = r.S'.next
  wrfp : ∀ n, n ∈ r.oi.wr → n ∈ r.oi.fp
  fplt : ∀ n, n ∈ r.oi.fp → n < r.S.next
  roge : ro ≤ r.S.next → ro ≤ r.ro ∧ r.ro ≤ r.S.next
  runs : r.want = true → astep P okS call r.ro r.f ⟨r.T, r.S.next⟩ r.o = some (r.v, r.S1) ∧ r.S1.next = r.S'.next
  sees : r.want = true → r.oi.isC = false → ∀ n, r.T.get n = if n ∈ r.oi.fp then r.S.h.get n else none
  seesC : r.want = true → r.oi.isC = true → r.oi.wr = [] ∧ ∀ n, r.T.get n = if n ∈ erasedOf un then none else r.S.h.get n
  still : r.want = true → r.oi.wr = [] → r.ro = r.S.next ∨ (∀ n, r.T.get n = none)
  wrall : r.want = true → r.oi.isC = false → r.oi.wr ≠ [] → r.oi.wr = r.oi.fp
  heap : ∀ n, r.S'.h.get n = if r.ch n = true then r.S1.h.get n else r.S.h.get n
  undefd : r.want = false → r.v = undef

theorem mkStep_good {P : Program} {okS : Kn} {call : ACall} {ro : Nat} {solo : Bool} {f : Fr} {S : St} {un : List Rec} {o : Oper} {r : Rec} (h : mkStep P okS call ro solo f S un o = some r) :
    r.Good P okS call ro un ∧ r.o = o ∧ r.f = f ∧ r.S = S ∧ r.want = true := by
  unfold mkStep at h
  cases hc : isCallOp o with
  | true =>
    simp only [hc, cond_true] at h
    cases hsolo : (solo && (un.isEmpty && bnd S.h S.next)) with
    | true =>
      rw [hsolo] at h
      simp only [cond_true] at h
      simp only [Bool.and_eq_true] at hsolo
      have hwf1 := bnd_spec S.h S.next
      split at h
      · rename_i v S1 hs
        cases hcc : (Nat.ble S.next S1.next && bnd S1.h S1.next) with
        | false => rw [hcc] at h; cases h
        | true =>
          rw [hcc] at h
          simp only [cond_true, Option.some.injEq] at h
          subst h
          simp only [Bool.and_eq_true, ble_eq, decide_eq_true_eq] at hcc
          have hwf2 := bnd_spec S1.h S1.next
          have hge1 : ∀ n, S.next ≤ n → S.h.get n = none := fun n hn => by
            cases e : S.h.get n with
            | none => rfl
            | some b => have := hwf1 n b hsolo.2.2 e; omega
          have hge2 : ∀ n, S1.next ≤ n → S1.h.get n = none := fun n hn => by
            cases e : S1.h.get n with
            | none => rfl
            | some b => have := hwf2 n b hcc.2 e; omega
          refine ⟨⟨hcc.1, ⟨rfl, rfl⟩, fun n hn => hn, fun n hn => (mem_namesOf.1 hn).2, fun h => ⟨Nat.le_refl _, h⟩, fun _ => ⟨hs, rfl⟩, fun _ _ n => ?_, (fun _ h => by cases h), fun _ h => .inr (fun n => ?_), fun _ _ _ => rfl, fun n => ?_, (fun h => by cases h)⟩, rfl, rfl, rfl, rfl⟩
          · dsimp only
            by_cases hm : n ∈ namesOf 0 S.next
            · rw [if_pos hm]
            · rw [if_neg hm]; exact hge1 n (by rw [mem_namesOf] at hm; omega)
          · dsimp only at h ⊢
            refine hge1 n ?_
            have : S.next = 0 := by
              rcases Nat.eq_zero_or_pos S.next with e | e
              · exact e
              · have : 0 ∈ namesOf 0 S.next := mem_namesOf.2 ⟨Nat.le_refl _, e⟩
                rw [h] at this; simp at this
            omega
          · dsimp only
            have : (n < S1.next) ↔ (Rec.ch ⟨o, f, S, true, v, ro, S.h, S1, S1, ⟨false, namesOf 0 S.next, namesOf 0 S.next, S.next, S1.next⟩⟩ n = true) := by
              rw [Rec.ch_eq, mem_namesOf]; simp; omega
            by_cases hm : n < S1.next
            · rw [if_pos (this.1 hm)]
            · rw [if_neg (fun h => hm (this.2 h)), hge1 n (by omega), hge2 n (by omega)]
      · cases h
    | false =>
    rw [hsolo] at h
    simp only [cond_false] at h
    split at h
    · rename_i v S1 hs
      rw [ble_eq] at h
      by_cases hle : S.next ≤ S1.next
      · simp only [hle, decide_true, cond_true, Option.some.injEq] at h
        subst h
        refine ⟨⟨hle, ⟨rfl, rfl⟩, fun n hn => by simp at hn, fun n hn => by simp at hn, fun h => ⟨h, Nat.le_refl _⟩, fun _ => ⟨hs, rfl⟩, (fun _ h => by cases h), fun _ _ => ⟨rfl, fun n => eraseMany_get _ _ _⟩, fun _ _ => .inl rfl, (fun _ h => by cases h), fun n => ?_, (fun h => by cases h)⟩, rfl, rfl, rfl, rfl⟩
        rw [setMany_get]
        have : (n ∈ namesOf S.next S1.next) ↔ (Rec.ch ⟨o, f, S, true, v, S.next, eraseMany S.h (erasedOf un), S1, ⟨setMany S.h S1.h (namesOf S.next S1.next), S1.next⟩, ⟨true, [], [], S.next, S1.next⟩⟩ n = true) := by
          rw [Rec.ch_eq, mem_namesOf]; simp
        by_cases hm : n ∈ namesOf S.next S1.next
        · rw [if_pos hm, if_pos (this.1 hm)]
        · rw [if_neg hm, if_neg (fun h => hm (this.2 h))]
      · simp [hle] at h
    · cases h
  | false =>
    simp only [hc, cond_false] at h
    split at h
    · rename_i fp hfp
      split at h
      · rename_i v S1 hs
        rw [ble_eq] at h
        cases hcnd : (decide (S.next ≤ S1.next) && fp.all (Nat.blt · S.next)) with
        | false => simp [hcnd] at h
        | true =>
          simp only [hcnd, cond_true, Option.some.injEq] at h
          subst h
          simp only [Bool.and_eq_true, decide_eq_true_eq] at hcnd
          have hlt : ∀ n, n ∈ fp → n < S.next := fun n hn => by
            have := List.all_eq_true.1 hcnd.2 n hn
            rw [blt_eq] at this; simpa using this
          refine ⟨⟨hcnd.1, ⟨rfl, rfl⟩, fun n hn => hn, hlt, fun h => ⟨Nat.le_refl _, h⟩, fun _ => ⟨hs, rfl⟩, fun _ _ n => by rw [setMany_get]; rfl, (fun _ h => by cases h), fun _ h => .inr (fun n => ?_), fun _ _ _ => rfl, fun n => ?_, (fun h => by cases h)⟩, rfl, rfl, rfl, rfl⟩
          · dsimp only at h ⊢
            rw [setMany_get, h]; simp [Tr.get]
          · dsimp only
            rw [setMany_get]
            have : (n ∈ fp ++ namesOf S.next S1.next) ↔ (Rec.ch ⟨o, f, S, true, v, ro, setMany .nil S.h fp, S1, ⟨setMany S.h S1.h (fp ++ namesOf S.next S1.next), S1.next⟩, ⟨false, fp, fp, S.next, S1.next⟩⟩ n = true) := by
              rw [Rec.ch_eq, List.mem_append, mem_namesOf]; simp
            by_cases hm : n ∈ fp ++ namesOf S.next S1.next
            · rw [if_pos hm, if_pos (this.1 hm)]
            · rw [if_neg hm, if_neg (fun h => hm (this.2 h))]
      · cases h
    · rename_i fp hfp
      split at h
      · rename_i v S1 hs
        rw [ble_eq] at h
        cases hcnd : (decide (S.next ≤ S1.next) && fp.all (Nat.blt · S.next)) with
        | false => simp [hcnd] at h
        | true =>
          simp only [hcnd, cond_true, Option.some.injEq] at h
          subst h
          simp only [Bool.and_eq_true, decide_eq_true_eq] at hcnd
          have hlt : ∀ n, n ∈ fp → n < S.next := fun n hn => by
            have := List.all_eq_true.1 hcnd.2 n hn
            rw [blt_eq] at this; simpa using this
          refine ⟨⟨hcnd.1, ⟨rfl, rfl⟩, fun n hn => by simp at hn, hlt, fun h => ⟨h, Nat.le_refl _⟩, fun _ => ⟨hs, rfl⟩, fun _ _ n => by rw [setMany_get]; rfl, (fun _ h => by cases h), fun _ _ => .inl rfl, fun _ _ h => absurd rfl h, fun n => ?_, (fun h => by cases h)⟩, rfl, rfl, rfl, rfl⟩
          dsimp only
          rw [setMany_get]
          have : (n ∈ namesOf S.next S1.next) ↔ (Rec.ch ⟨o, f, S, true, v, S.next, setMany .nil S.h fp, S1, ⟨setMany S.h S1.h (namesOf S.next S1.next), S1.next⟩, ⟨false, fp, [], S.next, S1.next⟩⟩ n = true) := by
            rw [Rec.ch_eq, mem_namesOf]; simp
          by_cases hm : n ∈ namesOf S.next S1.next
          · rw [if_pos hm, if_pos (this.1 hm)]
          · rw [if_neg hm, if_neg (fun h => hm (this.2 h))]
      · cases h

/-- All that is known of the record number i. -/
structure RecAt (P : Program) (okS : Kn) (call : ACall) (ro : Nat) (ops : Array Oper) (masks : List Nat) (R : Nat → Rec) (i : Nat) : Prop where
  good : (R i).Good P okS call ro (unord ((masks[i]?).getD 0) 0 ((List.range i).map R))
  op : ops[i]? = some (R i).o
  lex : ∀ e, e ∈ (R i).o.after.toList → Region.binds .any e = true → e.on < i
  grd : ∀ j b, (R i).o.guard = some (j, b) → ∃ e, e ∈ (R i).o.after.toList ∧ Region.binds .any e = true ∧ e.on = j
  apart : ∀ j, j < i → ((masks[i]?).getD 0).testBit j = false → (R j).o.apart ops (R i).o = true
  compat : ∀ j, j < i → ((masks[i]?).getD 0).testBit j = false → (R i).want = true → compat (R j).oi (R i).oi = true
  want : (R i).want = awanted ops (R i).o (R i).f
  idle : (R i).want = false → (R i).oi.wr = [] ∧ (R i).S'.next = (R i).S.next

theorem mkRec_at {P : Program} {okS : Kn} {call : ACall} {ro : Nat} {ops : Array Oper} {masks : List Nat} {R : Nat → Rec} {i : Nat} {f : Fr} {S : St} {o : Oper} (ho : ops[i]? = some o)
    (h : mkRec P okS call ro ops masks f S ((List.range i).map R) o = some (R i)) : RecAt P okS call ro ops masks R i ∧ (R i).o = o ∧ (R i).f = f ∧ (R i).S = S := by
  unfold mkRec at h
  simp only [List.length_map, List.length_range] at h
  have hun : ∀ j, j < i → ((masks[i]?).getD 0).testBit j = false → R j ∈ unord ((masks[i]?).getD 0) 0 ((List.range i).map R) := fun j hj hm =>
    mem_unord (i := j) (by simp [hj]) (by simpa using hm)
  cases hc : (lexOK i o && (guardOK o && (unord ((masks[i]?).getD 0) 0 ((List.range i).map R)).all fun x => x.o.apart ops o)) with
  | false => simp [hc] at h
  | true =>
    simp only [hc, cond_true] at h
    simp only [Bool.and_eq_true] at hc
    obtain ⟨hlex, hgrd, hap⟩ := hc
    have hlex' : ∀ e, e ∈ o.after.toList → Region.binds .any e = true → e.on < i := fun e he hb => by
      have := List.all_eq_true.1 hlex e he
      rw [hb] at this
      simpa [blt_eq] using this
    have hgrd' : ∀ j b, o.guard = some (j, b) → ∃ e, e ∈ o.after.toList ∧ Region.binds .any e = true ∧ e.on = j := fun j b hg => by
      unfold guardOK at hgrd
      rw [hg] at hgrd
      obtain ⟨e, he, h2⟩ := List.any_eq_true.1 hgrd
      rw [Bool.and_eq_true] at h2
      exact ⟨e, he, h2.2, Nat.eq_of_beq_eq_true h2.1⟩
    have hap' : ∀ j, j < i → ((masks[i]?).getD 0).testBit j = false → (R j).o.apart ops o = true := fun j hj hm => List.all_eq_true.1 hap _ (hun j hj hm)
    cases hw : awanted ops o f with
    | true =>
      rw [hw] at h
      simp only [cond_true] at h
      split at h
      · rename_i r hr
        cases hcm : (unord ((masks[i]?).getD 0) 0 ((List.range i).map R)).all fun x => Go.Ab.compat x.oi r.oi with
        | false => simp [hcm] at h
        | true =>
          simp only [hcm, cond_true, Option.some.injEq] at h
          obtain ⟨hgood, h1, h2, h3, h4⟩ := mkStep_good hr
          subst h
          refine ⟨⟨hgood, by rw [h1]; exact ho, by rw [h1]; exact hlex', by rw [h1]; exact hgrd', by rw [h1]; exact hap', fun j hj hm _ => List.all_eq_true.1 hcm _ (hun j hj hm), by rw [h1, h2, h4]; exact hw.symm, (fun e => by rw [h4] at e; cases e)⟩, h1, h2, h3⟩
      · cases h
    | false =>
      rw [hw] at h
      simp only [cond_false, Option.some.injEq] at h
      have e := h.symm
      refine ⟨⟨?_, by rw [e]; exact ho, by rw [e]; exact hlex', by rw [e]; exact hgrd', by rw [e]; exact hap', (fun j hj hm hwn => by rw [e] at hwn; cases hwn), by rw [e]; exact hw.symm, fun _ => by rw [e]; exact ⟨rfl, rfl⟩⟩, by rw [e], by rw [e], by rw [e]⟩
      rw [e]
      exact ⟨Nat.le_refl _, ⟨rfl, rfl⟩, fun n hn => by simp at hn, fun n hn => by simp at hn, fun h => ⟨Nat.le_refl _, h⟩, (fun h => by cases h), (fun h => by cases h), (fun h => by cases h), (fun h => by cases h), (fun h => by cases h), fun n => by simp [Rec.ch], fun _ => rfl⟩

/-- The walk's records. -/
theorem adrawGo_recs {P : Program} {okS : Kn} {call : ACall} {ro : Nat} {ops : Array Oper} {masks : List Nat} : ∀ (l : List Oper) (k : Nat) (f f' : Fr) (S S' : St) (R : Nat → Rec),
    (∀ i, l[i]? = ops[k + i]?) → adrawGo P okS call ro ops masks l f S ((List.range k).map R) = some (f', S') →
    ∃ R' : Nat → Rec, (∀ i, i < k → R' i = R i) ∧ (∀ i, k ≤ i → i < k + l.length → RecAt P okS call ro ops masks R' i) ∧
      (0 < l.length → (R' k).f = f ∧ (R' k).S = S) ∧ (∀ i, k ≤ i → i + 1 < k + l.length → (R' (i + 1)).f = (R' i).f.put (R' i).o.dst (R' i).v ∧ (R' (i + 1)).S = (R' i).S') ∧
      (l.length = 0 → f' = f ∧ S' = S) ∧ (0 < l.length → f' = (R' (k + l.length - 1)).f.put (R' (k + l.length - 1)).o.dst (R' (k + l.length - 1)).v ∧ S' = (R' (k + l.length - 1)).S')
  | [], k, f, f', S, S', R, hl, h => by
    simp only [adrawGo, Option.some.injEq, Prod.mk.injEq] at h
    exact ⟨R, fun _ _ => rfl, fun i h1 h2 => by simp at h2; omega, fun h => by simp at h, fun i h1 h2 => by simp at h2; omega, fun _ => ⟨h.1.symm, h.2.symm⟩, fun h => by simp at h⟩
  | o :: rest, k, f, f', S, S', R, hl, h => by
    simp only [adrawGo] at h
    split at h
    · rename_i r hr
      -- the new record is put at k
      obtain ⟨R1, hR1⟩ : ∃ R1 : Nat → Rec, R1 = fun i => if i = k then r else R i := ⟨_, rfl⟩
      have hlt : ∀ i, i < k → R1 i = R i := fun i hi => by rw [hR1]; simp; omega
      have hk : R1 k = r := by rw [hR1]; simp
      have hmap : (List.range k).map R1 = (List.range k).map R := List.map_congr_left (fun i hi => hlt i (List.mem_range.1 hi))
      have hmap2 : (List.range (k + 1)).map R1 = (List.range k).map R ++ [r] := by rw [List.range_succ, List.map_append, hmap]; simp [hk]
      rw [← hmap2] at h
      have ih := adrawGo_recs rest (k + 1) _ f' _ S' R1 (fun i => by have := hl (i + 1); rw [show k + 1 + i = k + (i + 1) by omega]; simpa using this) h
      obtain ⟨R', h1, h2, h3, h4, h5, h6⟩ := ih
      have hRk : R' k = r := by rw [h1 k (by omega), hk]
      have ho : ops[k]? = some o := by have := hl 0; simpa using this.symm
      have hmap3 : (List.range k).map R' = (List.range k).map R := List.map_congr_left (fun i hi => by rw [h1 i (by have := List.mem_range.1 hi; omega), hlt i (List.mem_range.1 hi)])
      obtain ⟨hat, e1, e2, e3⟩ := mkRec_at (R := R') ho (by rw [hmap3, hRk]; exact hr)
      refine ⟨R', fun i hi => by rw [h1 i (by omega), hlt i hi], fun i hi1 hi2 => ?_, fun _ => ⟨e2, e3⟩, fun i hi1 hi2 => ?_, fun h => by simp at h, fun _ => ?_⟩
      · by_cases e : i = k
        · subst e; exact hat
        · exact h2 i (by omega) (by simp at hi2; omega)
      · by_cases e : i = k
        · subst e
          have := h3 (by simp at hi2; omega)
          rw [e1, e2, hRk]
          exact this
        · exact h4 i (by omega) (by simp at hi2; omega)
      · by_cases e : rest.length = 0
        · have := h5 e
          simp only [List.length_cons, e]
          rw [show k + (0 + 1) - 1 = k by omega, e1, e2, hRk]
          exact this
        · have := h6 (by omega)
          simp only [List.length_cons]
          rw [show k + (rest.length + 1) - 1 = k + 1 + rest.length - 1 by omega]
          exact this
    · cases h

end Go.Ab

/-
  SYMBOLIC RUNS, part 1: a table of what is known of the heap; trees of conditions; one operation, code, calls.
-/
import Derived.Test.YtccpckiiademmaaGreatDoorKb2
set_option linter.unusedSimpArgs false
set_option linter.unusedVariables false
namespace Go.Ab

/-- A row of the table: a name, what it stands for, and whether it may be written. -/
structure Ent where
  nm : Nat
  blk : Blk
  rw : Bool

abbrev Tab := List (Option Ent)

def tget : Tab → Nat → Option Ent
  | [], _ => none
  | x :: _, 0 => x
  | _ :: xs, i + 1 => tget xs i
def tset : Tab → Nat → Option Ent → Tab
  | [], _, _ => []
  | _ :: xs, 0, y => y :: xs
  | x :: xs, i + 1, y => x :: tset xs i y
def tadd : Tab → Ent → Tab
  | [], e => [some e]
  | x :: xs, e => x :: tadd xs e
def tapp : Tab → Tab → Tab
  | [], N => N
  | x :: xs, N => x :: tapp xs N
def tlen : Tab → Nat
  | [] => 0
  | _ :: xs => tlen xs + 1

/-- What is left to be shown of a run. -/
inductive NT : Type where
  | done (ex : AX) (f : Fr) (K : Tab)
  | ret (v : Value) (K : Tab)
  | fail
  | need (c : Prop) (t : NT)
  | bit (b : Bool) (k : Bool → NT)
  | ix (n : Nat) (k : Nat → NT)
  | oV (q : Option Value) (k : Value → NT)
  | oL (q : Option (List Value)) (k : List Value → NT)
  | oB (q : Option Blk) (k : Blk → NT)
  | oY (q : Option (List UInt8)) (k : List UInt8 → NT)
  | new (b : Blk) (K : Tab) (k : Nat → NT)
  | call (g : FuncId) (args : List Value) (K : Tab) (k : Value → Tab → NT)
  | lcall (g : FuncId) (args : List Value) (K : Tab) (k : Value → Tab → NT)
  | loop (b : Code) (f : Fr) (K : Tab) (k : AX → Fr → Tab → NT)

/-- The answers. -/
inductive Tp : Type 1 where
  | nil
  | ok (t : Tp)
  | v (x : Value) (t : Tp)
  | l (x : List Value) (t : Tp)
  | b (x : Blk) (t : Tp)
  | y (x : List UInt8) (t : Tp)
  | ix (i : Nat) (t : Tp)
  | bit (t e : Tp)
  | bt (t : Tp)
  | bf (t : Tp)
  | new (t : Nat → Tp)
  | call {α : Type} (shape : α → Value × Tab) (t : α → Tp)
  | loop {α : Type} (sl : List Nat) (shape : α → AX × Fr × Tab) (t : α → Tp)

def At (S : St) (n : Nat) (b : Blk) : Prop := S.h.get n = some b ∧ n < S.next

structure TOK (ro : Nat) (K : Tab) (S : St) : Prop where
  wf : ∀ n b, S.h.get n = some b → n < S.next
  at_ : ∀ i e, tget K i = some e → At S e.nm e.blk
  inj : ∀ i j e e', tget K i = some e → tget K j = some e' → e.nm = e'.nm → i = j
  rw_ : ∀ i e, tget K i = some e → e.rw = true → ro ≤ e.nm
  lo : ro ≤ S.next

/-- What a run leaves as it was. -/
structure Delta (K : Tab) (S : St) (K' : Tab) (S' : St) : Prop where
  le : S.next ≤ S'.next
  keep : ∀ n b, At S n b → (∀ i e, tget K i = some e → e.rw = true → e.nm ≠ n) → At S' n b
  rw_ : ∀ i e, tget K' i = some e → e.rw = true → (∃ j e0, tget K j = some e0 ∧ e0.rw = true ∧ e0.nm = e.nm) ∨ S.next ≤ e.nm

/-- New rows that a call has made. -/
structure News (S : St) (N : Tab) (S1 : St) : Prop where
  le : S.next ≤ S1.next
  wf : ∀ n b, S1.h.get n = some b → n < S1.next
  at_ : ∀ i e, tget N i = some e → At S1 e.nm e.blk ∧ S.next ≤ e.nm
  inj : ∀ i j e e', tget N i = some e → tget N j = some e' → e.nm = e'.nm → i = j

/-- From some depth on. -/
def Ev (p : Nat → Prop) : Prop := ∃ m0, ∀ m, m0 ≤ m → p m

structure Env where
  P : Program
  kn : Kn
  summ : Summ
  ps : FuncId → Option (List Value → Option Value)
  ro : Nat
  K0 : Tab
  S0 : St

def RCall (P : Program) (kn : Kn) (summ : Summ) (ro : Nat) (g : FuncId) (args : List Value) (S : St) (v : Value) (S' : St) : Prop := Ev fun m => acall P kn summ m ro g args S = some (v, S')
def RRun (P : Program) (kn : Kn) (summ : Summ) (ro : Nat) (c : Code) (f : Fr) (S : St) (ex : AX) (f' : Fr) (S' : St) : Prop := Ev fun m => arun P kn summ m ro c f S = some (ex, f', S')
def RLoop (P : Program) (kn : Kn) (summ : Summ) (ro : Nat) (b : Code) (f : Fr) (S : St) (ex : AX) (f' : Fr) (S' : St) : Prop := Ev fun m => aloop (arun P kn summ m ro b) 1000000 f S = some (ex, f', S')

/-- Some slots of a frame. -/
def obs (f : Fr) : List Nat → List Value
  | [] => []
  | i :: is => f.g i :: obs f is

def look : List (Nat × Value) → Nat → Value → Value
  | [], _, d => d
  | p :: r, i, d => cond (Nat.beq i p.1) p.2 (look r i d)

/-- A frame some slots of which are told. -/
def mkF (n : Nat) (l : List (Nat × Value)) (g : Nat → Value) : Fr := ⟨n, fun i => look l i (g i)⟩

/-- What has to be shown. -/
def VC (E : Env) (Q : AX → Fr → St → Prop) (R : Value → St → Prop) : NT → Tp → Prop
  | .done ex f K, _ => ∀ S, TOK E.ro K S → Delta E.K0 E.S0 K S → Q ex f S
  | .ret v K, _ => ∀ S, TOK E.ro K S → Delta E.K0 E.S0 K S → R v S
  | .fail, _ => False
  | .need c t, tp => c ∧ VC E Q R t tp
  | .bit b k, tp => match tp with
    | .bit x y => (b = true → VC E Q R (k true) x) ∧ (b = false → VC E Q R (k false) y)
    | .bt x => match b with
      | true => VC E Q R (k true) x
      | false => False
    | .bf x => match b with
      | true => False
      | false => VC E Q R (k false) x
    | _ => False
  | .ix _ k, tp => match tp with
    | .ix i t => VC E Q R (k i) t
    | _ => False
  | .oV q k, tp => match tp with
    | .ok t => match q with
      | some x => VC E Q R (k x) t
      | none => False
    | .v x t => q = some x ∧ VC E Q R (k x) t
    | _ => False
  | .oL q k, tp => match tp with
    | .ok t => match q with
      | some x => VC E Q R (k x) t
      | none => False
    | .l x t => q = some x ∧ VC E Q R (k x) t
    | _ => False
  | .oB q k, tp => match tp with
    | .ok t => match q with
      | some x => VC E Q R (k x) t
      | none => False
    | .b x t => q = some x ∧ VC E Q R (k x) t
    | _ => False
  | .oY q k, tp => match tp with
    | .ok t => match q with
      | some x => VC E Q R (k x) t
      | none => False
    | .y x t => q = some x ∧ VC E Q R (k x) t
    | _ => False
  | .new _ _ k, tp => match tp with
    | .new t => ∀ n, VC E Q R (k n) (t n)
    | _ => False
  | .call g args K k, tp => match tp with
    | .call shape t => ∀ S, TOK E.ro K S → Delta E.K0 E.S0 K S → ∃ a S1, RCall E.P E.kn E.summ E.ro g args S (shape a).1 S1 ∧ TOK E.ro (shape a).2 S1 ∧ Delta K S (shape a).2 S1 ∧ VC E Q R (k (shape a).1 (shape a).2) (t a)
    | _ => False
  | .lcall g args K k, tp => match tp with
    | .call shape t => ∀ S, TOK E.ro K S → Delta E.K0 E.S0 K S → ∃ a S1, RCall E.P E.kn E.summ S.next g args S (shape a).1 S1 ∧ News S (shape a).2 S1 ∧ VC E Q R (k (shape a).1 (shape a).2) (t a)
    | _ => False
  | .loop b f K k, tp => match tp with
    | .loop sl shape t => ∀ S f', TOK E.ro K S → Delta E.K0 E.S0 K S → f'.n = f.n → obs f' sl = obs f sl → ∃ a S1, RLoop E.P E.kn E.summ E.ro b f' S (shape a).1 (shape a).2.1 S1 ∧ TOK E.ro (shape a).2.2 S1 ∧ Delta K S (shape a).2.2 S1 ∧ (shape a).1 ≠ .normal ∧ VC E Q R (k (shape a).1 (shape a).2.1 (shape a).2.2) (t a)
    | _ => False

/-- Cells, one by one. -/
def cellsF (cs : List Value) : Nat → Nat → Option (List Value)
  | _, 0 => some []
  | off, n + 1 => match cs[off]? with
    | some v => match cellsF cs (off + 1) n with
      | some l => some (v :: l)
      | none => none
    | none => none

theorem cellsF_eq (cs : List Value) : ∀ (n off : Nat), cellsF cs off n = cellsAt cs off n
  | 0, off => by simp [cellsF, cellsAt]
  | n + 1, off => by
    simp only [cellsF, cellsF_eq cs n (off + 1)]
    unfold cellsAt
    by_cases h : off < cs.length
    · rw [List.getElem?_eq_getElem h, List.drop_eq_getElem_cons h]
      simp only [List.take_succ_cons, List.length_cons]
      have e : ∀ m : Nat, Nat.beq (m + 1) (n + 1) = Nat.beq m n := fun m => rfl
      rw [e]
      cases Nat.beq ((cs.drop (off + 1)).take n).length n <;> rfl
    · rw [List.getElem?_eq_none (by omega), List.drop_eq_nil_of_le (show cs.length ≤ off by omega)]
      simp only [List.take_nil, List.length_nil]
      rfl

/-- Cells laid over others. -/
def splF : List Value → Nat → List Value → Option (List Value)
  | cs, 0, [] => some cs
  | [], 0, _ :: _ => none
  | _ :: cs, 0, v :: vs => match splF cs 0 vs with
    | some l => some (v :: l)
    | none => none
  | [], _ + 1, _ => none
  | c :: cs, n + 1, vs => match splF cs n vs with
    | some l => some (c :: l)
    | none => none

theorem splF_some : ∀ {cs : List Value} {off : Nat} {vs l : List Value}, splF cs off vs = some l → off + vs.length ≤ cs.length ∧ l = splice cs off vs
  | cs, 0, [], l, h => by simp only [splF, Option.some.injEq] at h; subst h; simp [splice]
  | [], 0, v :: vs, l, h => by simp [splF] at h
  | c :: cs, 0, v :: vs, l, h => by
    simp only [splF] at h
    split at h
    · rename_i l' h'
      obtain ⟨h1, h2⟩ := splF_some h'
      simp only [Option.some.injEq] at h
      subst h; subst h2
      simp only [List.length_cons]
      refine ⟨by omega, ?_⟩
      simp [splice]
    · cases h
  | [], n + 1, vs, l, h => by simp [splF] at h
  | c :: cs, n + 1, vs, l, h => by
    simp only [splF] at h
    split at h
    · rename_i l' h'
      obtain ⟨h1, h2⟩ := splF_some h'
      simp only [Option.some.injEq] at h
      subst h; subst h2
      simp only [List.length_cons]
      refine ⟨by omega, ?_⟩
      simp only [splice, List.take_succ_cons, List.cons_append]
      rw [show n + 1 + vs.length = (n + vs.length) + 1 by omega, List.drop_succ_cons]
    · cases h

theorem splF_eq : ∀ {cs : List Value} {off : Nat} {vs : List Value}, off + vs.length ≤ cs.length → splF cs off vs = some (splice cs off vs)
  | cs, 0, [], h => by simp [splF, splice]
  | [], 0, v :: vs, h => by simp at h
  | c :: cs, 0, v :: vs, h => by
    simp only [List.length_cons] at h
    simp only [splF, splF_eq (cs := cs) (off := 0) (vs := vs) (by omega)]
    simp [splice]
  | [], n + 1, vs, h => by simp at h
  | c :: cs, n + 1, vs, h => by
    simp only [List.length_cons] at h
    simp only [splF, splF_eq (cs := cs) (off := n) (vs := vs) (by omega)]
    simp only [splice, List.take_succ_cons, List.cons_append]
    rw [show n + 1 + vs.length = (n + vs.length) + 1 by omega, List.drop_succ_cons]

section
variable (P : Program) (kn : Kn) (ps : FuncId → Option (List Value → Option Value))

def nfind (n : Nat) (K : Tab) (k : Nat → Ent → NT) : NT := .ix n fun i => match tget K i with
  | some e => match e with
    | ⟨m, b, w⟩ => .need (m = n) (k i ⟨m, b, w⟩)
  | none => .fail

def nload (t : TypeId) (v : Value) (K : Tab) (k : Value → NT) : NT :=
  match v with
  | .pointer (some ⟨b, off, none⟩) => nfind b K fun _ e => match e.blk with
    | .row _ _ cs => match P.underlying t with
      | some d => match isAggD d with
        | true => .oL (cellsF cs off (P.cellsOf t)) fun l => k (.agg ⟨l⟩)
        | false => .oV cs[off]? k
      | none => .fail
    | _ => .fail
  | _ => .fail

def rowWrite (b : Blk) (off : Nat) (vs : List Value) : Option Blk :=
  match b with
  | .row fl e cs => match fl with
    | .arg => none
    | _ => cond (vs.all (·.oneCell')) (match splF cs off vs with
      | some l => some (.row fl e l)
      | none => none) none
  | _ => none

def nwrite (b off : Nat) (vs : List Value) (K : Tab) (k : Tab → NT) : NT :=
  match vs with
  | [] => k K
  | _ => nfind b K fun i e => match e with
    | ⟨m, bl, w⟩ => match w with
      | true => .oB (rowWrite bl off vs) fun b' => k (tset K i (some ⟨m, b', true⟩))
      | false => .fail

def nstore (t : TypeId) (a v : Value) (K : Tab) (k : Tab → NT) : NT :=
  match a with
  | .pointer (some ⟨b, off, none⟩) =>
    match P.info? t with
    | some i => match Nat.beq v.cells.size i.size with
      | true => nwrite b off v.cells.toList K k
      | false => .fail
    | none => .fail
  | _ => .fail

def nnew (b : Blk) (K : Tab) (k : Nat → Tab → NT) : NT := .new b K fun n => k n (tadd K ⟨n, b, true⟩)

def nbox (t : TypeId) (v : Value) (K : Tab) (k : Value → Tab → NT) : NT := nnew (.row .cls t v.cells.toList) K fun n K' => k (.pointer (some ⟨n, 0, none⟩)) K'

def ofO (q : Option Value) (k : Value → NT) : NT :=
  match q with
  | some v => k v
  | none => .fail

/-- Operations that don't look at the heap: the value. -/
def pval (f : Fr) (op : Op) : Option Value :=
  match op with
  | .move x => aval f x
  | .assign x => aval f x
  | .pick c a b => match aval f c with
    | some (.bool true) => match aval f b with
      | some _ => aval f a
      | none => none
    | some (.bool false) => match aval f a with
      | some _ => aval f b
      | none => none
    | _ => none
  | .build t parts => match aparts f parts.toList with
    | some ps => abuild P t ps
    | none => none
  | .nilCheck x => match aval f x with
    | some v => match v with
      | .pointer none | .nilIface | .nilFunc => none
      | .pointer (some _) | .func _ _ _ => some v
      | _ => none
    | none => none
  | .unOp op _ x => match aval f x with
    | some v => match op, v with
      | .not, .bool b => some (.bool !b)
      | .neg, .int k n => some (.int k (k.wrap (0 - n)))
      | .xor, .int k n => some (.int k (bits .xor k (if k.signed then -1 else k.max) n))
      | _, _ => none
    | none => none
  | .makeInterface t x => match aval f x with
    | some v => match P.underlying t with
      | some (.interface _) => none
      | some _ => some (.iface t v)
      | none => none
    | none => none
  | .makeFunc (.func g) first caps => match first.toList with
    | [] => match avals f caps.toList with
      | some vs => some (.func (.func g) #[] vs.toArray)
      | none => none
    | _ => none
  | .fieldAddr t x k => match aval f x with
    | some v => afieldAddr P t v k
    | none => none
  | .field t x k => match aval f x with
    | some v => afield P t v k
    | none => none
  | .index t x i => match aval f x with
    | some v => match aval f i with
      | some iv => aindex P t v iv
      | none => none
    | none => none
  | .slice t x lo hi mx => match aval f x with
    | some v => match aopt f lo with
      | some l => match aopt f hi with
        | some h => match aopt f mx with
          | some m => aslice P t v l h m
          | none => none
        | none => none
      | none => none
    | none => none
  | .extract t i => match aval f t with
    | some (.tuple vs) => vs.toList[i]?
    | _ => none
  | _ => none

def nindexAddr (t : TypeId) (x ix : Value) (k : Value → NT) : NT :=
  match ix with
  | .int _ i =>
    match P.underlying t with
    | some (.slice e) => match x with
      | .slice (some ⟨b, off, none⟩) n _ => match P.info? e with
        | some j => .need (0 ≤ i ∧ i < n) (k (.pointer (some ⟨b, off + i.toNat * j.size, none⟩)))
        | none => .fail
      | _ => .fail
    | some (.array n e) => match x with
      | .pointer (some ⟨b, off, none⟩) => match P.info? e with
        | some j => .need (0 ≤ i ∧ i < n) (k (.pointer (some ⟨b, off + i.toNat * j.size, none⟩)))
        | none => .fail
      | _ => .fail
    | _ => .fail
  | _ => .fail

def nshift (op : BinOp) (kk : IntKind) (a b : Int) (k : Value → NT) : NT :=
  match op with
  | .shl => .need (0 ≤ b) (k (.int kk (kk.wrap (a * ((2 ^ (min b.toNat kk.bits) : Nat) : Int)))))
  | _ => .need (0 ≤ b) (k (.int kk (a.fdiv ((2 ^ (min b.toNat kk.bits) : Nat) : Int))))

def nint (op : BinOp) (kk : IntKind) (a : Int) (kk' : IntKind) (b : Int) (k : Value → NT) : NT :=
  match op with
  | .shl => nshift .shl kk a b k
  | .shr => nshift .shr kk a b k
  | .quo => match decide (kk = kk') with
    | true => .need (b ≠ 0) (k (.int kk (kk.wrap (a.tdiv b))))
    | false => .fail
  | .rem => match decide (kk = kk') with
    | true => .need (b ≠ 0) (k (.int kk (a.tmod b)))
    | false => .fail
  | op => ofO (aint op kk a kk' b) k

/-- Values without addresses, compared. -/
def neqV (okS : TypeId → Bool) : Nat → TypeId → Value → Value → Option Bool
  | 0, _, _, _ => none
  | d + 1, t, x, y =>
    match P.underlying t with
    | none => none
    | some D =>
      match D, x, y with
      | .bool, .bool a, .bool b => some (a == b)
      | .int _, .int k a, .int k' b => match decide (k = k') with
        | true => some (a == b)
        | false => none
      | .string, .string a, .string b => some (a.data.toList == b.data.toList)
      | .struct fields, .agg xs, .agg ys => match okS t with
        | true => go (neqV okS d) xs ys fields.toList
        | false => none
      | _, _, _ => none
where
  go (rec : TypeId → Value → Value → Option Bool) (xs ys : Array Value) : List Field → Option Bool
    | [] => some true
    | f :: fs => match decide (f.name ≠ "_") with
      | true => match apart P f.type xs f.offset with
        | some a => match apart P f.type ys f.offset with
          | some b => match rec f.type a b with
            | some r => match fs with
              | [] => some r
              | _ => match go rec xs ys fs with
                | some s => some (r && s)
                | none => none
            | none => none
          | none => none
        | none => none
      | false => go rec xs ys fs

def nbin (f : Fr) (op : BinOp) (t : TypeId) (x y : Value) (k : Value → NT) : NT :=
  match x, y with
  | .int kk a, .int kk' b => nint op kk a kk' b k
  | .string a, .string b => match op with
    | .add => .need (a.data.toList.length + b.data.toList.length ≤ 4611686018427387904) (k (.string (bapp a b)))
    | op => ofO (astr op a b) k
  | .agg xs, .agg ys => match op, neqV P kn.okS 100 t (.agg xs) (.agg ys) with
    | .eql, some r => k (.bool r)
    | .neq, some r => k (.bool !r)
    | _, _ => .fail
  | _, _ => .oV (abin P kn.okS .nil op t x y) k

/-- Heads first: the kernel goes faster so. -/
def vhead {R : Type} (v : Value) (k : Value → R) : R :=
  match v with
  | .bool b => k (.bool b)
  | .int kk n => k (.int kk n)
  | .string s => k (.string s)
  | .pointer a => match a with
    | none => k (.pointer none)
    | some a => match a with
      | ⟨b, o, none⟩ => k (.pointer (some ⟨b, o, none⟩))
      | ⟨b, o, some m⟩ => k (.pointer (some ⟨b, o, some m⟩))
  | .slice a n c => match a with
    | none => k (.slice none n c)
    | some a => match a with
      | ⟨b, o, none⟩ => k (.slice (some ⟨b, o, none⟩) n c)
      | ⟨b, o, some m⟩ => k (.slice (some ⟨b, o, some m⟩) n c)
  | .map r => match r with
    | none => k (.map none)
    | some r => k (.map (some r))
  | .agg cs => k (.agg cs)
  | .tuple cs => k (.tuple cs)
  | .nilFunc => k .nilFunc
  | .nilIface => k .nilIface
  | .func f a b => k (.func f a b)
  | .iface t v => k (.iface t v)
  | v => k v

theorem vhead_eq {R : Type} (v : Value) (k : Value → R) : vhead v k = k v := by
  unfold vhead
  split <;> first
    | rfl
    | (split <;> first
        | rfl
        | (split <;> rfl))

def lforce {R : Type} : List Value → (List Value → R) → R
  | [], k => k []
  | x :: xs, k => vhead x fun y => lforce xs fun ys => k (y :: ys)

theorem lforce_eq {R : Type} : ∀ (l : List Value) (k : List Value → R), lforce l k = k l
  | [], k => rfl
  | x :: xs, k => by simp only [lforce, vhead_eq, lforce_eq xs]

def vforce {R : Type} (v : Value) (k : Value → R) : R :=
  vhead v fun v => match v with
  | .agg cs => match cs with
    | ⟨l⟩ => lforce l fun l => k (.agg ⟨l⟩)
  | .tuple cs => match cs with
    | ⟨l⟩ => lforce l fun l => k (.tuple ⟨l⟩)
  | v => k v

theorem vforce_eq {R : Type} (v : Value) (k : Value → R) : vforce v k = k v := by
  unfold vforce
  rw [vhead_eq]
  split
  · rename_i cs; obtain ⟨l⟩ := cs; simp only [lforce_eq]
  · rename_i cs; obtain ⟨l⟩ := cs; simp only [lforce_eq]
  · rfl

def tforce {R : Type} : Tab → (Tab → R) → R
  | [], k => k []
  | x :: xs, k => match x with
    | none => tforce xs fun ys => k (none :: ys)
    | some e => match e with
      | ⟨n, b, w⟩ => match b with
        | .row fl t cs => match w with
          | true => tforce xs fun ys => k (some ⟨n, .row fl t cs, true⟩ :: ys)
          | false => tforce xs fun ys => k (some ⟨n, .row fl t cs, false⟩ :: ys)
        | .map es c => match w with
          | true => tforce xs fun ys => k (some ⟨n, .map es c, true⟩ :: ys)
          | false => tforce xs fun ys => k (some ⟨n, .map es c, false⟩ :: ys)
        | .siter s p => tforce xs fun ys => k (some ⟨n, .siter s p, w⟩ :: ys)
        | .miter a b c d => tforce xs fun ys => k (some ⟨n, .miter a b c d, w⟩ :: ys)

theorem tforce_eq {R : Type} : ∀ (K : Tab) (k : Tab → R), tforce K k = k K
  | [], k => rfl
  | none :: xs, k => by simp only [tforce, tforce_eq xs]
  | some ⟨n, b, w⟩ :: xs, k => by
    cases b <;> cases w <;> simp only [tforce, tforce_eq xs]

def fforce {R : Type} (f : Fr) (k : Fr → R) : R :=
  match f with
  | ⟨n, g⟩ => k ⟨n, g⟩
theorem fforce_eq {R : Type} (f : Fr) (k : Fr → R) : fforce f k = k f := rfl

/-- A bool is parted. -/
def nsplit (v : Value) (k : Value → NT) : NT :=
  vforce v fun v => match v with
  | .bool b => .bit b fun c => k (.bool c)
  | v => k v

def rowCells (b : Blk) (off n : Nat) : Option (List Value) :=
  match b with
  | .row _ _ cs => cellsF cs off n
  | _ => none

/-- The cells of a slice or string. -/
def ncells (size n : Nat) (x : Value) (K : Tab) (k : List Value → NT) : NT :=
  match x with
  | .slice none _ _ => k []
  | .slice (some ⟨b, off, none⟩) _ _ => match Nat.beq b VOID with
    | true => .need (n * size = 0) (k [])
    | false => nfind b K fun _ e => .oL (rowCells e.blk off (n * size)) k
  | .string s => k ((s.data.toList.take n).map byteCell)
  | _ => .fail

def nappendTo (e : TypeId) (i : TypeInfo) (s : Value) (n : Nat) (news : List Value) (K : Tab) (k : Value → Tab → NT) : NT :=
  match s with
  | .slice a sLen sCap =>
    .need ((sLen + n ≤ 4611686018427387904 ∧ (sLen + n) * i.bytes ≤ 140737488355328) ∧ news.length = n * i.size) (match a with
    | none => .bit (Nat.ble (sLen + n) sCap) fun c => match c with
      | true => k (.slice none (sLen + n) sCap) K
      | false => .need (sLen = 0) (nnew (.row .opn e news) K fun m K' => k (.slice (some ⟨m, 0, none⟩) n UNK) K')
    | some ⟨b, off, none⟩ => .bit (Nat.beq n 0 && (Nat.ble UNK sCap || Nat.ble sLen sCap)) fun c => match c with
      | true => k (.slice (some ⟨b, off, none⟩) sLen sCap) K
      | false => .bit (Nat.blt sCap UNK) fun c => match c with
        | true => .bit (Nat.ble (sLen + n) sCap) fun c => match c with
          | true => nwrite b (off + sLen * i.size) news K fun K' => k (.slice (some ⟨b, off, none⟩) (sLen + n) sCap) K'
          | false => ncells i.size sLen s K fun olds => .need (olds.length = sLen * i.size) (nnew (.row .opn e (olds ++ news)) K fun m K' => k (.slice (some ⟨m, 0, none⟩) (sLen + n) UNK) K')
        | false => match Nat.beq off 0 && !(Nat.beq b VOID) with
          | true => nfind b K fun j en => match en.rw with
            | true => match en.blk with
              | .row .opn e0 cs => match Nat.beq (P.cellsOf e0) i.size with
                | true => .need (news.all (·.oneCell') = true) (.oL (cellsAt cs 0 (sLen * i.size)) fun olds => nnew (.row .opn e (olds ++ news)) (tset K j none) fun m K' => k (.slice (some ⟨m, 0, none⟩) (sLen + n) UNK) K')
                | false => .fail
              | _ => .fail
            | false => .fail
          | false => .fail
    | _ => .fail)
  | _ => .fail

def nappend (tS tX : TypeId) (s x : Value) (K : Tab) (k : Value → Tab → NT) : NT :=
  match P.underlying tS with
  | some (.slice e) => match P.underlying tX with
    | some dX => match azero P e with
      | some z => match P.info? e with
        | some i => match isIntD dX || !(Nat.beq z.cells.size i.size) with
          | true => .fail
          | false => match alen x with
            | some n => ncells i.size n x K fun news => nappendTo P e i s n news K k
            | none => .fail
        | none => .fail
      | none => .fail
    | none => .fail
  | _ => .fail

def nbuildSlice (t : TypeId) (len : Nat) (parts : List (Nat × Value)) (K : Tab) (k : Value → Tab → NT) : NT :=
  match P.underlying t with
  | some (.slice e) => match azero P e with
    | some z => match P.info? e with
      | some ie => match Nat.beq z.cells.size ie.size && (Nat.ble (len * ie.size) 16777216 && Nat.blt len UNK) with
        | true => match afill (fun i => some (i * ie.size, ie.size)) (arep z.cells.toList len) parts with
          | some l => nnew (.row .cls e l) K fun m K' => k (.slice (some ⟨m, 0, none⟩) len len) K'
          | none => .fail
        | false => .fail
      | none => .fail
    | none => .fail
  | _ => .fail

def nmakeSlice (t : TypeId) (len cap : Value) (K : Tab) (k : Value → Tab → NT) : NT :=
  match len, cap with
  | .int _ n, .int _ c => match P.underlying t with
    | some (.slice e) => match azero P e with
      | some z => match P.info? e with
        | some ie => match Nat.beq z.cells.size ie.size with
          | true => .need ((0 ≤ n ∧ n ≤ c) ∧ ((ie.bytes : Int) * c ≤ 281474976710656 ∧ c ≤ 281474976710656)) (nnew (.row .cls e (arep z.cells.toList c.toNat)) K fun m K' => k (.slice (some ⟨m, 0, none⟩) n.toNat c.toNat) K')
          | false => .fail
        | none => .fail
      | none => .fail
    | _ => .fail
  | _, _ => .fail

def nmakeMap (t : TypeId) (r : Option Value) (K : Tab) (k : Value → Tab → NT) : NT :=
  match r with
  | none => nnew (.map [] 0) K fun m K' => k (.map (some m)) K'
  | some (.int _ _) => match P.underlying t with
    | some (.map _ _) => nnew (.map [] 0) K fun m K' => k (.map (some m)) K'
    | _ => .fail
  | _ => .fail

def nconvert (s d : TypeId) (x : Value) (K : Tab) (k : Value → Tab → NT) : NT :=
  match P.underlying s with
  | none => .fail
  | some ds =>
    match P.underlying d with
    | none => .fail
    | some dd =>
      match dd, x with
      | .int kk, .int _ n => k (.int kk (kk.wrap n)) K
      | .string, .string b => k (.string b) K
      | .slice e, .string b => match P.underlying e with
        | some (.int .u8) => match ds with
          | .string => nnew (.row .arg e (b.data.toList.map byteCell)) K fun m K' => k (.slice (some ⟨m, 0, none⟩) b.data.toList.length UNK) K'
          | _ => .fail
        | _ => .fail
      | .string, .slice a n c => match ds with
        | .slice e => match P.underlying e with
          | some (.int .u8) => ncells 1 n (.slice a n c) K fun cs => .oY (abytes cs) fun l => k (.string ⟨l.toArray⟩) K
          | _ => .fail
        | _ => .fail
      | _, _ => .fail

def ncopy (tD : TypeId) (dst src : Value) (K : Tab) (k : Value → Tab → NT) : NT :=
  match P.underlying tD with
  | some (.slice e) => match P.info? e with
    | some i => match alen src with
      | some m => match dst with
        | .slice none n _ => ncells i.size (min m n) src K fun _ => k (.int .i64 (min m n : Nat)) K
        | .slice (some ⟨b, off, none⟩) n _ => match Nat.beq b VOID with
          | true => .fail
          | false => ncells i.size (min m n) src K fun us => nwrite b off us K fun K' => k (.int .i64 (min m n : Nat)) K'
        | _ => .fail
      | none => .fail
    | none => .fail
  | _ => .fail

def mapGet (t : TypeId) (b : Blk) (x : Value) (ok : Bool) : Option Value :=
  match P.underlying t with
  | some (.map kt et) => match P.underlying kt with
    | some d => cond (plainKey d && plainVal x)
      (match b with
      | .map es _ => match Instr.findNow d x es 0 with
        | some (some (_, v)) => some (cond ok (.tuple #[v, .bool true]) v)
        | some none => match azero P et with
          | some z => some (cond ok (.tuple #[z, .bool false]) z)
          | none => none
        | none => none
      | _ => none) none
    | none => none
  | _ => none

def nlookup (t : TypeId) (m x : Value) (ok : Bool) (K : Tab) (k : Value → NT) : NT :=
  match m with
  | .map none => .oV (mapGet P t (.map [] 0) x ok) k
  | .map (some b) => nfind b K fun _ e => .oV (mapGet P t e.blk x ok) k
  | _ => .fail

def mapPut (t : TypeId) (b : Blk) (x v : Value) : Option Blk :=
  match P.underlying t with
  | some (.map kt _) => match P.underlying kt with
    | some d => match b with
      | .map es clock => cond (plainKey d && plainVal x)
        (match Instr.findNow d x es 0 with
        | some (some (i, _)) => some (.map (es.modify i fun e => { e with key := x, val := v }) clock)
        | some none => some (.map (es ++ [{ key := x, val := v, born := clock }]) (clock + 1))
        | none => none) none
      | _ => none
    | none => none
  | _ => none

def nmapUpdate (t : TypeId) (m x v : Value) (K : Tab) (k : Tab → NT) : NT :=
  match m with
  | .map (some b) => nfind b K fun i e => match e with
    | ⟨m, bl, w⟩ => match w with
      | true => .oB (mapPut P t bl x v) fun b' => k (tset K i (some ⟨m, b', true⟩))
      | false => .fail
  | _ => .fail

def mapDel (t : TypeId) (b : Blk) (x : Value) : Option Blk :=
  match P.underlying t with
  | some (.map kt _) => match P.underlying kt with
    | some d => match b with
      | .map es clock => cond (plainKey d && plainVal x)
        (match Instr.findNow d x es 0 with
        | some (some (i, _)) => some (.map (es.eraseIdx i) clock)
        | some none => some (.map es clock)
        | none => none) none
      | _ => none
    | none => none
  | _ => none

def ndelete (t : TypeId) (m x : Value) (K : Tab) (k : Tab → NT) : NT :=
  match m with
  | .map (some b) => nfind b K fun i e => match e with
    | ⟨m, bl, w⟩ => match w with
      | true => .oB (mapDel P t bl x) fun b' => k (tset K i (some ⟨m, b', true⟩))
      | false => .fail
  | _ => .fail

def nlen (t : TypeId) (x : Value) (K : Tab) (k : Value → NT) : NT :=
  match P.underlying t, x with
  | some .string, .string s => k (.int .i64 (s.data.toList.length : Nat))
  | some (.array n _), _ => k (.int .i64 (n : Nat))
  | some (.slice _), .slice _ n _ => k (.int .i64 (n : Nat))
  | some (.map _ _), .map none => k (.int .i64 0)
  | some (.map _ _), .map (some b) => nfind b K fun _ e => match e.blk with
    | .map es _ => k (.int .i64 (es.length : Nat))
    | _ => .fail
  | _, _ => .fail

def nbuiltin (b : Builtin) (ts : List TypeId) (args : List Value) (K : Tab) (k : Value → Tab → NT) : NT :=
  match b, ts, args with
  | .len, [t], [x] => nlen P t x K fun v => k v K
  | .append, [tS, tX], [s, x] => nappend P tS tX s x K k
  | .copy, [tD, _], [d, x] => ncopy P tD d x K k
  | .min, _, x :: r => match x with
    | .int _ _ => ofO (amm false x r) fun v => k v K
    | _ => .fail
  | .max, _, x :: r => match x with
    | .int _ _ => ofO (amm true x r) fun v => k v K
    | _ => .fail
  | .delete, t :: _, [m, x] => ndelete P t m x K fun K' => k (.tuple #[]) K'
  | _, _, _ => .fail

def nenter (low : Bool) (g : FuncId) (args : List Value) (K : Tab) (k : Value → Tab → NT) : NT :=
  match kn.ext g with
  | 0 => match enterable P g with
    | true => match ps g with
      | some p => ofO (p args) fun v => k v K
      | none => match low with
        | true => .lcall g args K fun v N => k v (tapp K N)
        | false => .call g args K k
    | false => .fail
  | _ => .fail

def ncall (low : Bool) (f : Fr) (c : Go.Call) (K : Tab) (k : Value → Tab → NT) : NT :=
  match avals f c.args.toList with
  | none => .fail
  | some args =>
    match c.callee with
    | .builtin b => nbuiltin P b c.argTypes.toList args K k
    | .value x => match aval f x with
      | some (.func (.func g) _ caps) => match kn.ext g with
        | 0 => nenter P kn ps low g (args ++ caps.toList) K k
        | j + 1 => ofO (aext (j + 1) (args ++ caps.toList)) fun v => k v K
      | _ => .fail
    | .invoke r name => match aval f r with
      | some (.iface t v) => match ainvoke P t name with
        | some g => nenter P kn ps low g (v :: args) K k
        | none => .fail
      | _ => .fail

def nop (low : Bool) (f : Fr) (op : Op) (K : Tab) (k : Value → Tab → NT) : NT :=
  match op with
  | .alloc t => ofO (azero P t) fun z => nbox t z K k
  | .box t x => ofO (aval f x) fun v => nbox t v K k
  | .buildSlice t n parts => match aparts f parts.toList with
    | some ps => nbuildSlice P t n ps K k
    | none => .fail
  | .load t x => ofO (aval f x) fun v => nload P t v K fun u => k u K
  | .store t a x => ofO (aval f a) fun av => ofO (aval f x) fun v => nstore P t av v K fun K' => k undef K'
  | .binOp op t x y _ => ofO (aval f x) fun u => ofO (aval f y) fun v => vforce u fun u => vforce v fun v => nbin P kn f op t u v fun r => k r K
  | .convert s d x => ofO (aval f x) fun v => nconvert P s d v K k
  | .makeMap t r => match aopt f r with
    | some v => nmakeMap P t v K k
    | none => .fail
  | .makeSlice t l c => ofO (aval f l) fun lv => ofO (aval f c) fun cv => nmakeSlice P t lv cv K k
  | .indexAddr t x i => ofO (aval f x) fun v => ofO (aval f i) fun iv => nindexAddr P t v iv fun r => k r K
  | .lookup t x i ok => ofO (aval f x) fun v => ofO (aval f i) fun iv => nlookup P t v iv ok K fun r => k r K
  | .mapUpdate t m x v => ofO (aval f m) fun mv => ofO (aval f x) fun kv => ofO (aval f v) fun vv => nmapUpdate P t mv kv vv K fun K' => k undef K'
  | .slice t x lo hi mx => .oV (pval P f (.slice t x lo hi mx)) fun v => k v K
  | .index t x i => .oV (pval P f (.index t x i)) fun v => k v K
  | .call c => ncall P kn ps low f c K k
  | op => ofO (pval P f op) fun v => k v K

def nops (ops : Array Oper) : List Oper → Fr → Tab → (Fr → Tab → NT) → NT
  | [], f, K, k => k f K
  | o :: rest, f, K, k => match awanted ops o f with
    | true => nop P kn ps false f o.op K fun v K' => tforce K' fun K' => nsplit v fun u => fforce (f.put o.dst u) fun f' => nops ops rest f' K' k
    | false => fforce (f.put o.dst undef) fun f' => nops ops rest f' K k

end
end Go.Ab

/-
  ABSTRACT HEAPS, part 1: a trie on numbers; blocks with names; what it is that a value, a block, a world is told by an abstract one.
-/
import Derived.Calls
import Derived.Orders
import Derived.Laws.Entries
import Derived.Laws.Cells
import Derived.Laws.Append
import Derived.Laws.CopyRow
import Derived.Laws.StructEq
import Derived.Laws.Rows
import Derived.Below
import Derived.KernelRfl
namespace Go.Ab

theorem cond_beq {β : Sort _} (a b : Nat) (x y : β) : cond (Nat.beq a b) x y = if a = b then x else y := by
  by_cases h : a = b
  · subst h; simp
  · have : Nat.beq a b = false := by
      cases hb : Nat.beq a b with
      | false => rfl
      | true => exact absurd (Nat.eq_of_beq_eq_true hb) h
    simp [this, h]

/-- A trie on natural numbers. -/
inductive Tr (α : Type) where
  | nil : Tr α
  | node (l : Tr α) (v : Option α) (r : Tr α) : Tr α

namespace Tr
variable {α : Type}

def get : Tr α → Nat → Option α
  | .nil, _ => none
  | .node l v r, k => cond (Nat.beq k 0) v (cond (Nat.beq (k % 2) 1) (l.get (k / 2)) (r.get (k / 2 - 1)))

def setF : Nat → Tr α → Nat → Option α → Tr α
  | 0, t, _, _ => t
  | f + 1, .nil, k, x => cond (Nat.beq k 0) (.node .nil x .nil) (cond (Nat.beq (k % 2) 1) (.node (setF f .nil (k / 2) x) none .nil) (.node .nil none (setF f .nil (k / 2 - 1) x)))
  | f + 1, .node l v r, k, x => cond (Nat.beq k 0) (.node l x r) (cond (Nat.beq (k % 2) 1) (.node (setF f l (k / 2) x) v r) (.node l v (setF f r (k / 2 - 1) x)))

def set (t : Tr α) (k : Nat) (x : Option α) : Tr α := setF (k + 1) t k x

theorem get_setF : ∀ (f : Nat) (t : Tr α) (k : Nat) (x : Option α) (m : Nat), k < f → (setF f t k x).get m = if m = k then x else t.get m := by
  intro f
  induction f with
  | zero => intro t k x m h; omega
  | succ f ih =>
    intro t k x m h
    cases t with
    | nil =>
      simp only [setF, cond_beq]
      by_cases k0 : k = 0
      · subst k0
        simp only [if_true, get, cond_beq]
        split
        · rfl
        · split <;> rfl
      · by_cases k1 : k % 2 = 1
        · simp only [k0, k1, if_true, if_false, get, cond_beq, ih _ _ _ _ (show k / 2 < f by omega)]
          by_cases m0 : m = 0
          · subst m0; simp; omega
          · by_cases m1 : m % 2 = 1
            · simp only [m0, m1, if_true, if_false]
              by_cases e : m = k
              · subst e; simp
              · rw [if_neg e, if_neg (by omega)]
            · simp only [m0, m1, if_false]
              rw [if_neg (by omega)]
        · simp only [k0, k1, if_false, get, cond_beq, ih _ _ _ _ (show k / 2 - 1 < f by omega)]
          by_cases m0 : m = 0
          · subst m0; simp; omega
          · by_cases m1 : m % 2 = 1
            · simp only [m0, m1, if_true, if_false]
              rw [if_neg (by omega)]
            · simp only [m0, m1, if_false]
              by_cases e : m = k
              · subst e; simp
              · rw [if_neg e, if_neg (by omega)]
    | node l v r =>
      simp only [setF, cond_beq]
      by_cases k0 : k = 0
      · subst k0
        simp only [if_true, get, cond_beq]
        split
        · rfl
        · rfl
      · by_cases k1 : k % 2 = 1
        · simp only [k0, k1, if_true, if_false, get, cond_beq, ih _ _ _ _ (show k / 2 < f by omega)]
          by_cases m0 : m = 0
          · subst m0; simp; omega
          · by_cases m1 : m % 2 = 1
            · simp only [m0, m1, if_true, if_false]
              by_cases e : m = k
              · subst e; simp
              · rw [if_neg e, if_neg (by omega)]
            · simp only [m0, m1, if_false]
              rw [if_neg (by omega)]
        · simp only [k0, k1, if_false, get, cond_beq, ih _ _ _ _ (show k / 2 - 1 < f by omega)]
          by_cases m0 : m = 0
          · subst m0; simp; omega
          · by_cases m1 : m % 2 = 1
            · simp only [m0, m1, if_true, if_false]
              rw [if_neg (by omega)]
            · simp only [m0, m1, if_false]
              by_cases e : m = k
              · subst e; simp
              · rw [if_neg e, if_neg (by omega)]

theorem get_set (t : Tr α) (k : Nat) (x : Option α) (m : Nat) : (t.set k x).get m = if m = k then x else t.get m := get_setF _ _ _ _ _ (by omega)
theorem get_nil (m : Nat) : (Tr.nil : Tr α).get m = none := rfl

def ofList (n : Nat) : List α → Tr α → Tr α
  | [], t => t
  | x :: xs, t => ofList (n + 1) xs (t.set n (some x))

theorem get_ofList : ∀ (xs : List α) (n : Nat) (t : Tr α) (m : Nat), (ofList n xs t).get m = if n ≤ m ∧ m < n + xs.length then xs[m - n]? else t.get m
  | [], n, t, m => by simp [ofList]; omega
  | x :: xs, n, t, m => by
    rw [ofList, get_ofList xs (n + 1), get_set]
    by_cases h : m = n
    · subst h
      rw [if_neg (by omega), if_pos (by simp)]
      simp
    · rw [if_neg h]
      by_cases h2 : n ≤ m ∧ m < n + (x :: xs).length
      · rw [if_pos h2, if_pos (by simp at h2; omega)]
        obtain ⟨d, hd⟩ : ∃ d, m - n = d + 1 := ⟨m - n - 1, by omega⟩
        rw [hd, show m - (n + 1) = d by omega]
        simp
      · rw [if_neg h2, if_neg (by simp at h2; omega)]
end Tr

/-- How a row of cells stands in memory: it is only read; it has been grown by 'append', so that its capacity isn't known; it is known whole. -/
inductive Fl where
  | arg | opn | cls
  deriving DecidableEq

inductive Blk where
  | row (fl : Fl) (elem : TypeId) (cs : List Value)
  | map (es : List MapEntry) (clock : Nat)
  | siter (s : ByteArray) (pos : Nat)
  | miter (m : Option Nat) (since : Nat) (seen : List Nat) (last : Nat)

/-- Where a name stands: the block, how far into it, and its capacity, in elements. -/
structure Loc where
  blk : Nat
  dis : Nat
  cap : Nat

abbrev Rn := Nat → Option Loc
abbrev Hp := Nat → Option Blk

structure St where
  h : Tr Blk
  next : Nat

/-- A name that never stands for a block: where an empty slice leads to. -/
def VOID : Nat := 15
/-- A capacity that is not known. -/
def UNK : Nat := 18446744073709551616
/-- Names of package-level variables are below this. -/
def NG : Nat := 12

def CapR (l : Loc) (off n c c' : Nat) : Prop := (c' = c ∧ c < UNK) ∨ (c' = UNK ∧ n ≤ c ∧ (off = 0 → c = l.cap))

inductive VR (ρ : Rn) : Value → Value → Prop
  | bool (b : Bool) : VR ρ (.bool b) (.bool b)
  | int (k : IntKind) (n : Int) : VR ρ (.int k n) (.int k n)
  | string (s : ByteArray) : VR ρ (.string s) (.string s)
  | nilptr : VR ρ (.pointer none) (.pointer none)
  | ptr {b : Nat} {l : Loc} (off : Nat) : ρ b = some l → VR ρ (.pointer (some ⟨l.blk, off + l.dis, none⟩)) (.pointer (some ⟨b, off, none⟩))
  | nilslice (n c : Nat) : VR ρ (.slice none n c) (.slice none n c)
  | slice {b : Nat} {l : Loc} (off n c c' : Nat) : ρ b = some l → CapR l off n c c' → VR ρ (.slice (some ⟨l.blk, off + l.dis, none⟩) n c) (.slice (some ⟨b, off, none⟩) n c')
  | void (a : Addr) (c : Nat) : VR ρ (.slice (some a) 0 c) (.slice (some ⟨VOID, 0, none⟩) 0 UNK)
  | nilmap : VR ρ (.map none) (.map none)
  | map {b : Nat} {l : Loc} : ρ b = some l → VR ρ (.map (some l.blk)) (.map (some b))
  | func (f : FuncId) (xs ys : Array Value) : xs.size = ys.size → (∀ i, i < xs.size → VR ρ (xs.getD i undef) (ys.getD i undef)) → VR ρ (.func (.func f) #[] xs) (.func (.func f) #[] ys)
  | nilFunc : VR ρ .nilFunc .nilFunc
  | nilIface : VR ρ .nilIface .nilIface
  | iface (t : TypeId) (v u : Value) : VR ρ v u → VR ρ (.iface t v) (.iface t u)
  | agg (xs ys : Array Value) : xs.size = ys.size → (∀ i, i < xs.size → VR ρ (xs.getD i undef) (ys.getD i undef)) → VR ρ (.agg xs) (.agg ys)
  | tuple (xs ys : Array Value) : xs.size = ys.size → (∀ i, i < xs.size → VR ρ (xs.getD i undef) (ys.getD i undef)) → VR ρ (.tuple xs) (.tuple ys)

def VRs (ρ : Rn) (xs ys : Array Value) : Prop := xs.size = ys.size ∧ ∀ i, i < xs.size → VR ρ (xs.getD i undef) (ys.getD i undef)
def VRl (ρ : Rn) (xs ys : List Value) : Prop := xs.length = ys.length ∧ ∀ i, i < xs.length → VR ρ (xs.getD i undef) (ys.getD i undef)

def Ext (ρ ρ' : Rn) : Prop := ∀ n l, ρ n = some l → ρ' n = some l
theorem Ext.refl (ρ : Rn) : Ext ρ ρ := fun _ _ h => h
theorem Ext.trans {a b c : Rn} (h : Ext a b) (k : Ext b c) : Ext a c := fun n l e => k n l (h n l e)

theorem VR.undef (ρ : Rn) : VR ρ undef undef := .tuple #[] #[] rfl (fun i h => by simp at h)

theorem VR.mono {ρ ρ' : Rn} (he : Ext ρ ρ') {v u : Value} (h : VR ρ v u) : VR ρ' v u := by
  induction h with
  | bool b => exact .bool b
  | int k n => exact .int k n
  | string s => exact .string s
  | nilptr => exact .nilptr
  | ptr off h => exact .ptr off (he _ _ h)
  | nilslice n c => exact .nilslice n c
  | slice off n c c' h hc => exact .slice off n c c' (he _ _ h) hc
  | void a c => exact .void a c
  | nilmap => exact .nilmap
  | map h => exact .map (he _ _ h)
  | func f xs ys hs _ ih => exact .func f xs ys hs ih
  | nilFunc => exact .nilFunc
  | nilIface => exact .nilIface
  | iface t v u _ ih => exact .iface t v u ih
  | agg xs ys hs _ ih => exact .agg xs ys hs ih
  | tuple xs ys hs _ ih => exact .tuple xs ys hs ih

theorem VRs.mono {ρ ρ' : Rn} (he : Ext ρ ρ') {xs ys : Array Value} (h : VRs ρ xs ys) : VRs ρ' xs ys := ⟨h.1, fun i hi => (h.2 i hi).mono he⟩
theorem VRl.mono {ρ ρ' : Rn} (he : Ext ρ ρ') {xs ys : List Value} (h : VRl ρ xs ys) : VRl ρ' xs ys := ⟨h.1, fun i hi => (h.2 i hi).mono he⟩
theorem VRs.getD {ρ : Rn} {xs ys : Array Value} (h : VRs ρ xs ys) (i : Nat) : VR ρ (xs.getD i undef) (ys.getD i undef) := by
  by_cases hi : i < xs.size
  · exact h.2 i hi
  · have h1 : xs.getD i undef = undef := by simp [Array.getD, hi]
    have h2 : ys.getD i undef = undef := by have := h.1; simp [Array.getD, show ¬ i < ys.size by omega]
    rw [h1, h2]; exact .undef ρ
theorem VRl.getD {ρ : Rn} {xs ys : List Value} (h : VRl ρ xs ys) (i : Nat) : VR ρ (xs.getD i undef) (ys.getD i undef) := by
  by_cases hi : i < xs.length
  · exact h.2 i hi
  · have := h.1
    rw [List.getD_eq_getElem?_getD, List.getD_eq_getElem?_getD, List.getElem?_eq_none (by omega), List.getElem?_eq_none (by omega)]
    exact .undef ρ
theorem VRs.toList {ρ : Rn} {xs ys : Array Value} (h : VRs ρ xs ys) : VRl ρ xs.toList ys.toList := by
  refine ⟨by simpa using h.1, fun i hi => ?_⟩
  have := h.getD i
  simpa [List.getD_eq_getElem?_getD] using this
theorem VRl.toArray {ρ : Rn} {xs ys : List Value} (h : VRl ρ xs ys) : VRs ρ xs.toArray ys.toArray := by
  refine ⟨by simpa using h.1, fun i hi => ?_⟩
  have := h.getD i
  simpa [List.getD_eq_getElem?_getD] using this
theorem VRl.nil (ρ : Rn) : VRl ρ [] [] := ⟨rfl, fun i h => by simp at h⟩
theorem VRl.cons {ρ : Rn} {x y : Value} {xs ys : List Value} (h : VR ρ x y) (t : VRl ρ xs ys) : VRl ρ (x :: xs) (y :: ys) := by
  refine ⟨by simp [t.1], fun i hi => ?_⟩
  cases i with
  | zero => simpa using h
  | succ i => have := t.getD i; simpa using this
theorem VRl.append {ρ : Rn} {xs ys xs' ys' : List Value} (h : VRl ρ xs ys) (t : VRl ρ xs' ys') : VRl ρ (xs ++ xs') (ys ++ ys') := by
  refine ⟨by simp [h.1, t.1], fun i hi => ?_⟩
  have h1 := h.1
  simp only [List.getD_eq_getElem?_getD]
  by_cases hi' : i < xs.length
  · rw [List.getElem?_append_left hi', List.getElem?_append_left (by omega)]
    have := h.getD i
    simpa [List.getD_eq_getElem?_getD] using this
  · rw [List.getElem?_append_right (by omega), List.getElem?_append_right (by omega), ← h1]
    have := t.getD (i - xs.length)
    simpa [List.getD_eq_getElem?_getD] using this
theorem VRl.take {ρ : Rn} {xs ys : List Value} (h : VRl ρ xs ys) (n : Nat) : VRl ρ (xs.take n) (ys.take n) := by
  refine ⟨by simp [h.1], fun i hi => ?_⟩
  have := h.getD i
  simp only [List.length_take] at hi
  simp only [List.getD_eq_getElem?_getD, List.getElem?_take] at this ⊢
  rw [if_pos (by omega), if_pos (by omega)]
  exact this
theorem VRl.drop {ρ : Rn} {xs ys : List Value} (h : VRl ρ xs ys) (n : Nat) : VRl ρ (xs.drop n) (ys.drop n) := by
  refine ⟨by simp [h.1], fun i hi => ?_⟩
  have := h.getD (n + i)
  simpa [List.getD_eq_getElem?_getD] using this
theorem VRl.at {ρ : Rn} {xs ys : List Value} (h : VRl ρ xs ys) {i : Nat} {y : Value} (hy : ys[i]? = some y) : ∃ x, xs[i]? = some x ∧ VR ρ x y := by
  have hl : i < ys.length := (List.getElem?_eq_some_iff.1 hy).1
  have h1 := h.1
  have := h.getD i
  rw [List.getD_eq_getElem?_getD, List.getD_eq_getElem?_getD, hy, List.getElem?_eq_getElem (by omega)] at this
  exact ⟨_, List.getElem?_eq_getElem (by omega), this⟩
theorem VRl.of_at {ρ : Rn} {xs ys : List Value} (hl : xs.length = ys.length) (h : ∀ (i : Nat) (y : Value), ys[i]? = some y → ∃ x, xs[i]? = some x ∧ VR ρ x y) : VRl ρ xs ys := by
  refine ⟨hl, fun i hi => ?_⟩
  obtain ⟨x, hx, hv⟩ := h i _ (List.getElem?_eq_getElem (show i < ys.length by omega))
  rw [List.getD_eq_getElem?_getD, List.getD_eq_getElem?_getD, hx, List.getElem?_eq_getElem (show i < ys.length by omega)]
  exact hv

theorem VR.cells {ρ : Rn} {v u : Value} (h : VR ρ v u) : VRs ρ v.cells u.cells := by
  have one : ∀ x y : Value, VR ρ x y → VRs ρ #[x] #[y] := fun x y hxy => ⟨rfl, fun i hi => by
    have : i = 0 := by simp at hi; omega
    subst this; simpa using hxy⟩
  cases h with
  | agg xs ys hs hh => exact ⟨hs, hh⟩
  | _ => first
    | exact one _ _ (by assumption)
    | (apply one; constructor <;> assumption)
    | (apply one; constructor)

theorem VR.oneCell {ρ : Rn} {v u : Value} (h : VR ρ v u) : v.oneCell' = u.oneCell' := by cases h <;> rfl

/-- One entry of a map: keys are plain. -/
def MR (ρ : Rn) (e e' : MapEntry) : Prop := e.key = e'.key ∧ VR ρ e.val e'.val ∧ e.born = e'.born

def BR (P : Program) (ρ : Rn) (o : Option Obj) (b : Blk) (l : Loc) : Prop :=
  match b with
  | .row fl elem cs => ∃ (cc : Array Value) (e : TypeId) (fr : Nat × Nat), o = some (.cells cc e fr) ∧
      (∀ (i : Nat) (u : Value), cs[i]? = some u → ∃ cv, cc[i + l.dis]? = some cv ∧ VR ρ cv u) ∧
      match fl with
      | .arg => True
      | .opn => fr = (0, 0) ∧ cc.size = l.dis + l.cap * P.cellsOf elem
      | .cls => fr = (0, 0) ∧ cc.size = cs.length ∧ l.dis = 0
  | .map es clock => ∃ es' : Array MapEntry, o = some (.map es' clock) ∧ es'.size = es.length ∧ ∀ (i : Nat) (e : MapEntry), es[i]? = some e → ∃ e', es'[i]? = some e' ∧ MR ρ e' e
  | .siter s pos => l.dis = 0 ∧ o = some (.stringIter s pos)
  | .miter m since seen last => l.dis = 0 ∧ ∃ m', o = some (.mapIter m' since seen.toArray last) ∧ match m with
      | none => m' = none
      | some n => ∃ lm, ρ n = some lm ∧ m' = some lm.blk

theorem BR.mono {P : Program} {ρ ρ' : Rn} (he : Ext ρ ρ') {o : Option Obj} {b : Blk} {l : Loc} (h : BR P ρ o b l) : BR P ρ' o b l := by
  cases b with
  | row fl elem cs =>
    obtain ⟨cc, e, fr, ho, hc, hf⟩ := h
    exact ⟨cc, e, fr, ho, fun i u hu => let ⟨cv, h1, h2⟩ := hc i u hu; ⟨cv, h1, h2.mono he⟩, hf⟩
  | map es clock =>
    obtain ⟨es', ho, hs, hc⟩ := h
    exact ⟨es', ho, hs, fun i e hi => let ⟨e', h1, h2, h3, h4⟩ := hc i e hi; ⟨e', h1, h2, h3.mono he, h4⟩⟩
  | siter s pos => exact h
  | miter m since seen last =>
    obtain ⟨hd, m', ho, hm⟩ := h
    refine ⟨hd, m', ho, ?_⟩
    cases m with
    | none => exact hm
    | some n => obtain ⟨lm, h1, h2⟩ := hm; exact ⟨lm, he _ _ h1, h2⟩

theorem BR.ex {P : Program} {ρ : Rn} {o : Option Obj} {b : Blk} {l : Loc} (h : BR P ρ o b l) : ∃ x, o = some x := by
  cases b with
  | row fl elem cs => obtain ⟨cc, e, fr, ho, _⟩ := h; exact ⟨_, ho⟩
  | map es clock => obtain ⟨es', ho, _⟩ := h; exact ⟨_, ho⟩
  | siter s pos => exact ⟨_, h.2⟩
  | miter m since seen last => obtain ⟨_, m', ho, _⟩ := h; exact ⟨_, ho⟩

structure WR (P : Program) (ρ : Rn) (w : World) (H : Hp) : Prop where
  inj : ∀ m n bm bn lm ln, H m = some bm → H n = some bn → ρ m = some lm → ρ n = some ln → lm.blk = ln.blk → m = n
  blk : ∀ n b, H n = some b → ∃ l, ρ n = some l ∧ BR P ρ w.heap[l.blk]? b l
  glob : ∀ g, g < NG → ∃ c, ρ g = some ⟨g, 0, c⟩

theorem WR.lt {P : Program} {ρ : Rn} {w : World} {H : Hp} (h : WR P ρ w H) {n : Nat} {b : Blk} {l : Loc} (hn : H n = some b) (hl : ρ n = some l) : l.blk < w.heap.size := by
  obtain ⟨l', h1, h2⟩ := h.blk n b hn
  rw [hl] at h1
  obtain rfl : l = l' := by simpa using h1
  obtain ⟨x, hx⟩ := h2.ex
  exact (Array.getElem?_eq_some_iff.1 hx).1

/-- Fewer names are told as well. -/
theorem WR.weaken {P : Program} {ρ : Rn} {w : World} {H H' : Hp} (h : WR P ρ w H) (hs : ∀ n b, H' n = some b → H n = some b) : WR P ρ w H' :=
  ⟨fun m n bm bn lm ln h1 h2 => h.inj m n bm bn lm ln (hs _ _ h1) (hs _ _ h2), fun n b hn => h.blk n b (hs _ _ hn), h.glob⟩

theorem WR.of_heap {P : Program} {ρ : Rn} {w w' : World} {H : Hp} (h : WR P ρ w H) (hh : ∀ n b l, H n = some b → ρ n = some l → w'.heap[l.blk]? = w.heap[l.blk]?) : WR P ρ w' H :=
  ⟨h.inj, fun n b hn => by
    obtain ⟨l, h1, h2⟩ := h.blk n b hn
    exact ⟨l, h1, by rw [hh n b l hn h1]; exact h2⟩, h.glob⟩

/-- What becomes of names and world in a step that may write to names from 'ro' on, and makes names from c on, below c'. -/
structure Post (P : Program) (ro : Nat) (ρ : Rn) (H : Hp) (c : Nat) (w : World) (ρ' : Rn) (H' : Hp) (c' : Nat) (w' : World) : Prop where
  le : c ≤ c'
  dom : ∀ n, ¬(c ≤ n ∧ n < c') → ρ' n = ρ n
  wr : WR P ρ' w' H'
  os : w'.os = w.os
  tape : w'.tape = w.tape
  output : w'.output = w.output
  size : w.heap.size ≤ w'.heap.size
  frame : ∀ B, B < w.heap.size → (∀ n b l, ro ≤ n → H n = some b → ρ n = some l → l.blk ≠ B) → w'.heap[B]? = w.heap[B]?
  fresh : ∀ n b l, c ≤ n → n < c' → H' n = some b → ρ' n = some l → w.heap.size ≤ l.blk ∨ ∃ m bm lm, ro ≤ m ∧ H m = some bm ∧ ρ m = some lm ∧ lm.blk = l.blk
  live : ∀ n b, ¬(c ≤ n ∧ n < c') → H' n = some b → ∃ b', H n = some b'
  keep : ∀ n, n < ro → H' n = H n

/-- No name of these is taken yet. -/
def FreeOn (ρ : Rn) (c c' : Nat) : Prop := ∀ n, c ≤ n → n < c' → ρ n = none

theorem Post.ext {P : Program} {ro : Nat} {ρ ρ' : Rn} {H H' : Hp} {c c' : Nat} {w w' : World} (h : Post P ro ρ H c w ρ' H' c' w') (hf : FreeOn ρ c c') : Ext ρ ρ' := fun n l hl => by
  by_cases hn : c ≤ n ∧ n < c'
  · rw [hf n hn.1 hn.2] at hl; cases hl
  · rw [h.dom n hn]; exact hl

theorem Post.refl {P : Program} {ro : Nat} {ρ : Rn} {H : Hp} {c : Nat} {w : World} (h : WR P ρ w H) : Post P ro ρ H c w ρ H c w :=
  ⟨Nat.le_refl _, fun _ _ => rfl, h, rfl, rfl, rfl, Nat.le_refl _, fun _ _ _ => rfl, fun n b l h1 h2 => by omega, fun n b _ h => ⟨b, h⟩, fun _ _ => rfl⟩

theorem Post.trans {P : Program} {ro : Nat} {ρ ρ1 ρ2 : Rn} {H H1 H2 : Hp} {c c1 c2 : Nat} {w w1 w2 : World}
    (h : Post P ro ρ H c w ρ1 H1 c1 w1) (k : Post P ro ρ1 H1 c1 w1 ρ2 H2 c2 w2) : Post P ro ρ H c w ρ2 H2 c2 w2 := by
  have key : ∀ n b l, ro ≤ n → H1 n = some b → ρ1 n = some l → w.heap.size ≤ l.blk ∨ ∃ m bm lm, ro ≤ m ∧ H m = some bm ∧ ρ m = some lm ∧ lm.blk = l.blk := by
    intro n b l hn hb hl
    by_cases hc : c ≤ n ∧ n < c1
    · exact h.fresh n b l hc.1 hc.2 hb hl
    · obtain ⟨b', hb'⟩ := h.live n b hc hb
      rw [h.dom n hc] at hl
      exact .inr ⟨n, b', l, hn, hb', hl, rfl⟩
  refine ⟨Nat.le_trans h.le k.le, fun n hn => ?_, k.wr, k.os.trans h.os, k.tape.trans h.tape, k.output.trans h.output, Nat.le_trans h.size k.size, fun B hB hB' => ?_, fun n b l h1 h2 hb hl => ?_, fun n b hn hb => ?_, fun n hn => (k.keep n hn).trans (h.keep n hn)⟩
  · have := h.le; have := k.le
    rw [k.dom n (by omega), h.dom n (by omega)]
  · rw [k.frame B (by have := h.size; omega) ?_, h.frame B hB hB']
    intro n b l hn hb hl e
    rcases key n b l hn hb hl with h1 | ⟨m, bm, lm, h1, h2, h3, h4⟩
    · omega
    · exact hB' m bm lm h1 h2 h3 (h4.trans e)
  · by_cases hn : n < c1
    · -- made in the first step, still there
      have hd : ρ2 n = ρ1 n := k.dom n (by omega)
      rw [hd] at hl
      obtain ⟨b', hb'⟩ := k.live n b (by omega) hb
      exact h.fresh n b' l h1 hn hb' hl
    · rcases k.fresh n b l (by omega) h2 hb hl with h3 | ⟨m, bm, lm, h3, h4, h5, h6⟩
      · exact .inl (by have := h.size; omega)
      · rcases key m bm lm h3 h4 h5 with h7 | ⟨m', bm', lm', h7, h8, h9, h10⟩
        · exact .inl (by omega)
        · exact .inr ⟨m', bm', lm', h7, h8, h9, h10.trans h6⟩
  · have := h.le; have := k.le
    obtain ⟨b1, hb1⟩ := k.live n b (by omega) hb
    exact h.live n b1 (by omega) hb1

end Go.Ab

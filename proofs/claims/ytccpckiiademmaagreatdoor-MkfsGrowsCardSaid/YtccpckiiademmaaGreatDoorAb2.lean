/-
  ABSTRACT HEAPS, part 2: steps that make a block or turn one; operands; loads and stores.
-/
import Derived.Test.YtccpckiiademmaaGreatDoorAb1
set_option linter.unusedSimpArgs false
namespace Go.Ab

def rset (ρ : Rn) (n : Nat) (l : Loc) : Rn := fun m => if m = n then some l else ρ m
def put (H : Hp) (n : Nat) (b : Option Blk) : Hp := fun m => if m = n then b else H m

theorem get_set_eq (t : Tr Blk) (k : Nat) (x : Option Blk) : (t.set k x).get = put t.get k x := funext fun m => Tr.get_set t k x m

theorem rset_same (ρ : Rn) (n : Nat) (l : Loc) : rset ρ n l n = some l := by simp [rset]
theorem rset_other (ρ : Rn) {n m : Nat} (l : Loc) (h : m ≠ n) : rset ρ n l m = ρ m := by simp [rset, h]
theorem Ext.rset {ρ : Rn} {n : Nat} (h : ρ n = none) (l : Loc) : Ext ρ (rset ρ n l) := fun m k hm => by
  by_cases e : m = n
  · subst e; rw [h] at hm; cases hm
  · rw [rset_other ρ l e]; exact hm

theorem WR.ge {P : Program} {ρ : Rn} {w : World} {H : Hp} (h : WR P ρ w H) {c : Nat} (hc : ρ c = none) : NG ≤ c := by
  rcases Nat.lt_or_ge c NG with h' | h'
  · obtain ⟨x, hx⟩ := h.glob c h'; rw [hc] at hx; cases hx
  · exact h'

/-- A new name for a block, new or not, that no live name stands for. -/
theorem WR.new {P : Program} {ρ : Rn} {w w' : World} {H : Hp} (h : WR P ρ w H) {c : Nat} (hc : ρ c = none) (l : Loc) (b : Blk) (hb : BR P (rset ρ c l) w'.heap[l.blk]? b l)
    (hne : ∀ n bn ln, H n = some bn → ρ n = some ln → ln.blk ≠ l.blk) (hheap : ∀ n bn ln, H n = some bn → ρ n = some ln → w'.heap[ln.blk]? = w.heap[ln.blk]?) :
    WR P (rset ρ c l) w' (put H c (some b)) := by
  have hcN := h.ge hc
  refine ⟨fun m n bm bn lm ln h1 h2 h3 h4 h5 => ?_, fun n bn hn => ?_, fun g hg => ?_⟩
  · by_cases em : m = c <;> by_cases en : n = c
    · rw [em, en]
    · subst em
      rw [rset_same] at h3
      rw [rset_other _ _ en] at h4
      simp only [put, if_neg en] at h2
      obtain rfl : l = lm := by simpa using h3
      exact absurd h5.symm (hne n bn ln h2 h4)
    · subst en
      rw [rset_same] at h4
      rw [rset_other _ _ em] at h3
      simp only [put, if_neg em] at h1
      obtain rfl : l = ln := by simpa using h4
      exact absurd h5 (hne m bm lm h1 h3)
    · rw [rset_other _ _ em] at h3
      rw [rset_other _ _ en] at h4
      simp only [put, if_neg em] at h1
      simp only [put, if_neg en] at h2
      exact h.inj m n bm bn lm ln h1 h2 h3 h4 h5
  · by_cases en : n = c
    · subst en
      simp only [put, if_true] at hn
      obtain rfl : b = bn := by simpa using hn
      exact ⟨l, rset_same _ _ _, hb⟩
    · simp only [put, if_neg en] at hn
      obtain ⟨ln, h1, h2⟩ := h.blk n bn hn
      refine ⟨ln, by rw [rset_other _ _ en]; exact h1, ?_⟩
      rw [hheap n bn ln hn h1]
      exact h2.mono (.rset hc l)
  · obtain ⟨x, hx⟩ := h.glob g hg
    exact ⟨x, by rw [rset_other _ _ (by omega)]; exact hx⟩

theorem Post.new {P : Program} {ro : Nat} {ρ : Rn} {H : Hp} {c : Nat} {w w' : World} (h : WR P ρ w H) (hc : ρ c = none) (hro : ro ≤ c) (l : Loc) (hl : l.blk = w.heap.size) (b : Blk) (o : Obj)
    (hheap : w'.heap = w.heap.push o) (hos : w'.os = w.os) (htape : w'.tape = w.tape) (hout : w'.output = w.output) (hb : BR P (rset ρ c l) (some o) b l) :
    Post P ro ρ H c w (rset ρ c l) (put H c (some b)) (c + 1) w' := by
  have hold : ∀ B, B < w.heap.size → w'.heap[B]? = w.heap[B]? := fun B hB => by rw [hheap, Array.getElem?_push, if_neg (by omega)]
  refine ⟨by omega, fun n hn => rset_other _ _ (by omega), ?_, hos, htape, hout, by rw [hheap]; simp, fun B hB _ => hold B hB, fun n b' l' h1 h2 _ hl' => ?_, fun n b' hn hb' => ?_, fun n hn => ?_⟩
  · refine h.new hc l b ?_ ?_ ?_
    · rw [hl, hheap]; simpa using hb
    · intro n bn ln hn hln; have := h.lt hn hln; omega
    · intro n bn ln hn hln; exact hold _ (h.lt hn hln)
  · obtain rfl : n = c := by omega
    rw [rset_same] at hl'
    obtain rfl : l = l' := by simpa using hl'
    exact .inl (by omega)
  · simp only [put, if_neg (show n ≠ c by omega)] at hb'; exact ⟨b', hb'⟩
  · simp only [put, if_neg (show n ≠ c by omega)]

theorem Post.turn {P : Program} {ro : Nat} {ρ : Rn} {H : Hp} {c : Nat} {w w' : World} (h : WR P ρ w H) {n : Nat} {b : Blk} {l : Loc} (hn : H n = some b) (hl : ρ n = some l) (hro : ro ≤ n) (b' : Blk)
    (hsz : w'.heap.size = w.heap.size) (hos : w'.os = w.os) (htape : w'.tape = w.tape) (hout : w'.output = w.output) (hb : BR P ρ w'.heap[l.blk]? b' l)
    (hoth : ∀ B, B ≠ l.blk → w'.heap[B]? = w.heap[B]?) : Post P ro ρ H c w ρ (put H n (some b')) c w' := by
  refine ⟨Nat.le_refl _, fun _ _ => rfl, ⟨fun m k bm bk lm lk h1 h2 h3 h4 h5 => ?_, fun m bm hm => ?_, h.glob⟩, hos, htape, hout, by omega, fun B hB hB' => hoth B (fun e => hB' n b l hro hn hl e.symm), fun m bm lm h1 h2 => by omega, fun m bm _ hm => ?_, fun m hm => ?_⟩
  · have live : ∀ m bm, put H n (some b') m = some bm → ∃ b0, H m = some b0 := fun m bm hm => by
      by_cases e : m = n
      · subst e; exact ⟨b, hn⟩
      · simp only [put, if_neg e] at hm; exact ⟨bm, hm⟩
    obtain ⟨b1, h1'⟩ := live m bm h1
    obtain ⟨b2, h2'⟩ := live k bk h2
    exact h.inj m k b1 b2 lm lk h1' h2' h3 h4 h5
  · by_cases e : m = n
    · subst e
      simp only [put, if_true] at hm
      obtain rfl : b' = bm := by simpa using hm
      exact ⟨l, hl, hb⟩
    · simp only [put, if_neg e] at hm
      obtain ⟨lm, h1, h2⟩ := h.blk m bm hm
      refine ⟨lm, h1, ?_⟩
      rw [hoth _ (fun e' => e (h.inj m n bm b lm l hm hn h1 hl e'))]
      exact h2
  · by_cases e : m = n
    · subst e; exact ⟨b, hn⟩
    · simp only [put, if_neg e] at hm; exact ⟨bm, hm⟩
  · simp only [put, if_neg (show m ≠ n by omega)]

/-! ### frames and operands -/

structure Fr where
  n : Nat
  g : Nat → Value

def Fr.get (f : Fr) (i : Nat) : Value := f.g i
def Fr.put (f : Fr) (dst : Option Tmp) (v : Value) : Fr :=
  match dst with
  | some d => match f with
    | ⟨n, g⟩ => cond (Nat.blt d n) ⟨n, fun i => cond (Nat.beq i d) v (g i)⟩ ⟨n, g⟩
  | none => f

def TR (ρ : Rn) (tmps : Array Value) (f : Fr) : Prop := tmps.size = f.n ∧ ∀ i, VR ρ (tmps.getD i undef) (f.get i)

theorem TR.mono {ρ ρ' : Rn} (he : Ext ρ ρ') {tmps : Array Value} {f : Fr} (h : TR ρ tmps f) : TR ρ' tmps f := ⟨h.1, fun i => (h.2 i).mono he⟩

theorem ble_eq (a b : Nat) : Nat.ble a b = decide (a ≤ b) := Bool.eq_iff_iff.2 (by rw [Nat.ble_eq]; simp)
theorem blt_eq (a b : Nat) : Nat.blt a b = decide (a < b) := by unfold Nat.blt; rw [ble_eq]; simp [Nat.succ_le_iff]

theorem TR.put {ρ : Rn} {a : Act} {f : Fr} (h : TR ρ a.tmps f) (dst : Option Tmp) {v u : Value} (hv : VR ρ v u) : TR ρ (a.put dst v).tmps (f.put dst u) := by
  cases dst with
  | none => exact h
  | some d =>
    simp only [Act.put, Fr.put, blt_eq]
    by_cases hd : d < f.n
    · simp only [hd, decide_true, cond_true]
      refine ⟨by simpa using h.1, fun i => ?_⟩
      simp only [Fr.get, cond_beq]
      have hs := h.1
      by_cases e : i = d
      · subst e
        rw [if_pos rfl]
        have : (a.tmps.setIfInBounds i v).getD i undef = v := by simp [Array.getD, hs, hd]
        rw [this]; exact hv
      · rw [if_neg e]
        have : (a.tmps.setIfInBounds d v).getD i undef = a.tmps.getD i undef := by
          simp only [Array.getD_eq_getD_getElem?, Array.getElem?_setIfInBounds]
          rw [if_neg (by omega)]
        rw [this]; exact h.2 i
    · simp only [hd, decide_false, cond_false]
      have hs := h.1
      have : a.tmps.setIfInBounds d v = a.tmps := by
        apply Array.ext_getElem?
        intro i
        rw [Array.getElem?_setIfInBounds]
        split
        · rename_i e
          subst e
          rw [Array.getElem?_eq_none (by rw [hs]; exact Nat.le_of_not_lt hd)]
          rw [if_neg (by rw [hs]; exact hd)]
        · rfl
      rw [this]; exact h

/-- A value without addresses. -/
def cleanB : Nat → Value → Bool
  | 0, _ => false
  | n + 1, v => match v with
    | .bool _ | .int _ _ | .string _ | .pointer none | .slice none _ _ | .map none | .nilFunc | .nilIface => true
    | .iface _ v => cleanB n v
    | .agg xs | .tuple xs => xs.toList.all (cleanB n)
    | _ => false

theorem cleanB_VR (ρ : Rn) : ∀ (n : Nat) (v : Value), cleanB n v = true → VR ρ v v := by
  intro n
  induction n with
  | zero => intro v h; simp [cleanB] at h
  | succ n ih =>
    have arr : ∀ xs : Array Value, xs.toList.all (cleanB n) = true → ∀ i, i < xs.size → VR ρ (xs.getD i undef) (xs.getD i undef) := fun xs h i hi => by
      have h1 : xs.getD i undef = xs[i] := by simp [Array.getD, hi]
      rw [h1]
      exact ih _ (List.all_eq_true.1 h _ (by simp))
    intro v h
    cases v with
    | bool b => exact .bool b
    | int k n => exact .int k n
    | string s => exact .string s
    | pointer a => cases a with
      | none => exact .nilptr
      | some a => simp [cleanB] at h
    | slice a n c => cases a with
      | none => exact .nilslice n c
      | some a => simp [cleanB] at h
    | map r => cases r with
      | none => exact .nilmap
      | some a => simp [cleanB] at h
    | nilFunc => exact .nilFunc
    | nilIface => exact .nilIface
    | iface t v => exact .iface t v v (ih v (by simpa [cleanB] using h))
    | agg xs => exact .agg xs xs rfl (arr xs (by simpa [cleanB] using h))
    | tuple xs => exact .tuple xs xs rfl (arr xs (by simpa [cleanB] using h))
    | _ => simp [cleanB] at h

def aval (f : Fr) (x : Operand) : Option Value :=
  match x with
  | .tmp t => some (f.get t)
  | .const v => cond (cleanB 50 v) (some v) none
  | .global g => cond (Nat.blt g NG) (some (.pointer (some ⟨g, 0, none⟩))) none
  | .func g => some (.func (.func g) #[] #[])

theorem aval_sound {P : Program} {ρ : Rn} {w : World} {H : Hp} {a : Act} {f : Fr} (hw : WR P ρ w H) (ht : TR ρ a.tmps f) {x : Operand} {u : Value} (h : aval f x = some u) : VR ρ (a.eval x) u := by
  cases x with
  | tmp t => simp only [aval, Option.some.injEq] at h; subst h; exact ht.2 t
  | const v =>
    simp only [aval] at h
    cases hc : cleanB 50 v with
    | false => simp [hc] at h
    | true => simp [hc] at h; subst h; exact cleanB_VR ρ 50 v hc
  | global g =>
    simp only [aval, blt_eq] at h
    by_cases hg : g < NG
    · simp [hg] at h
      subst h
      obtain ⟨c, hc⟩ := hw.glob g hg
      exact .ptr (l := ⟨g, 0, c⟩) 0 hc
    · simp [hg] at h
  | func g => simp only [aval, Option.some.injEq] at h; subst h; exact .func g #[] #[] rfl (fun i h => by simp at h)

/-- All of several operands. -/
def avals (f : Fr) : List Operand → Option (List Value)
  | [] => some []
  | x :: xs => match aval f x with
    | some v => match avals f xs with
      | some vs => some (v :: vs)
      | none => none
    | none => none

theorem avals_sound {P : Program} {ρ : Rn} {w : World} {H : Hp} {a : Act} {f : Fr} (hw : WR P ρ w H) (ht : TR ρ a.tmps f) : ∀ {xs : List Operand} {us : List Value}, avals f xs = some us → VRl ρ (xs.map a.eval) us
  | [], us, h => by simp [avals] at h; subst h; exact .nil ρ
  | x :: xs, us, h => by
    simp only [avals] at h
    cases hx : aval f x with
    | none => simp [hx] at h
    | some v =>
      cases hxs : avals f xs with
      | none => simp [hx, hxs] at h
      | some vs =>
        simp [hx, hxs] at h
        subst h
        exact .cons (aval_sound hw ht hx) (avals_sound hw ht hxs)

/-! ### the program's tables -/

theorem run_typeInfo {P : Program} {t : TypeId} {i : TypeInfo} (h : P.info? t = some i) (w : World) : (typeInfo t).run P w = .ok i w := by simp [typeInfo, h]
theorem run_sizeOf {P : Program} {t : TypeId} {i : TypeInfo} (h : P.info? t = some i) (w : World) : (sizeOf t).run P w = .ok i.size w := by simp [sizeOf, typeInfo, h]
theorem run_zeroValue {P : Program} {t : TypeId} {i : TypeInfo} {z : Value} (h : P.info? t = some i) (hz : i.zero = some z) (w : World) : (zeroValue t).run P w = .ok z w := by simp [zeroValue, typeInfo, h, hz]
theorem cellsOf_info {P : Program} {t : TypeId} {i : TypeInfo} (h : P.info? t = some i) : P.cellsOf t = i.size := by simp [Program.cellsOf, h]
theorem info_of_underlying {P : Program} {t : TypeId} {d : TypeDesc} (h : P.underlying t = some d) : ∃ i, P.info? t = some i := by
  unfold Program.underlying at h
  cases hi : P.info? t with
  | none => simp [hi] at h
  | some i => exact ⟨i, rfl⟩
def isAggD : TypeDesc → Bool
  | .struct _ | .array _ _ => true
  | _ => false
theorem run_isAgg {P : Program} {t : TypeId} {d : TypeDesc} (h : P.underlying t = some d) (w : World) : (isAgg t).run P w = .ok (isAggD d) w := by
  unfold isAgg
  rw [Sem.run_bind, run_underlying h w]
  cases d <;> rfl

/-! ### rows -/

theorem add_lit (b o n : Nat) : Addr.add ⟨b, o, none⟩ n = ⟨b, o + n, none⟩ := Addr.add_lit b o n

def cellsAt {α : Type} (cs : List α) (off n : Nat) : Option (List α) := cond (Nat.beq ((cs.drop off).take n).length n) (some ((cs.drop off).take n)) none

theorem cellsAt_spec {α : Type} {cs l : List α} {off n : Nat} (h : cellsAt cs off n = some l) : l = (cs.drop off).take n ∧ l.length = n ∧ ∀ j, j < n → cs[off + j]? = l[j]? := by
  unfold cellsAt at h
  rw [cond_beq] at h
  split at h
  · rename_i hl
    simp only [Option.some.injEq] at h
    subst h
    refine ⟨rfl, hl, fun j hj => ?_⟩
    rw [List.getElem?_take, if_pos hj, List.getElem?_drop]
  · cases h

/-- What cells of a row that is told are in memory. -/
theorem row_cells {P : Program} {ρ : Rn} {w : World} {fl : Fl} {elem : TypeId} {cs : List Value} {l : Loc} (hb : BR P ρ w.heap[l.blk]? (.row fl elem cs) l) {off n : Nat} {us : List Value} (h : cellsAt cs off n = some us) :
    ∃ vs : List Value, VRl ρ vs us ∧ vs.length = n ∧ ∀ (j : Nat) (v : Value), vs[j]? = some v → w.cell? ((⟨l.blk, off + l.dis, none⟩ : Addr).add j) = some v := by
  obtain ⟨hu, hlen, hat⟩ := cellsAt_spec h
  obtain ⟨cc, e, fr, ho, hc, _⟩ := hb
  have key : ∀ j, j < n → ∃ u, us[j]? = some u ∧ ∃ cv, cc[off + j + l.dis]? = some cv ∧ VR ρ cv u := fun j hj => by
    have h1 : us[j]? = some us[j] := List.getElem?_eq_getElem (by omega)
    exact ⟨_, h1, hc (off + j) _ (by rw [hat j hj]; exact h1)⟩
  refine ⟨(List.range n).map fun j => cc.getD (off + j + l.dis) undef, ⟨by simp [hlen], fun j hj => ?_⟩, by simp, fun j v hv => ?_⟩
  · simp only [List.length_map, List.length_range] at hj
    obtain ⟨u, h1, cv, h2, h3⟩ := key j hj
    simp only [List.getD_eq_getElem?_getD, h1, Option.getD_some, List.getElem?_map, List.getElem?_range hj, Option.map_some, Array.getD_eq_getD_getElem?, h2]
    exact h3
  · have hj : j < n := by
      have := (List.getElem?_eq_some_iff.1 hv).1
      simpa using this
    obtain ⟨u, h1, cv, h2, h3⟩ := key j hj
    simp only [List.getElem?_map, List.getElem?_range hj, Option.map_some, Array.getD_eq_getD_getElem?, h2, Option.getD_some, Option.some.injEq] at hv
    subst hv
    rw [add_lit, cell_of_row w l.blk _ cc e fr ho, show off + l.dis + j = off + j + l.dis by omega]
    exact h2

def aload (P : Program) (H : Tr Blk) (t : TypeId) (v : Value) : Option Value :=
  match v with
  | .pointer (some ⟨b, off, none⟩) =>
    match H.get b with
    | some (.row _ _ cs) =>
      match P.underlying t with
      | some d => match isAggD d with
        | true => match cellsAt cs off (P.cellsOf t) with
          | some l => some (.agg l.toArray)
          | none => none
        | false => cs[off]?
      | none => none
    | _ => none
  | _ => none

theorem loadVar_sound {P : Program} {ρ : Rn} {w : World} {fl : Fl} {elem : TypeId} {cs : List Value} {l : Loc} (hb : BR P ρ w.heap[l.blk]? (.row fl elem cs) l) {t : TypeId} {off : Nat} {x : Value}
    (h : (match P.underlying t with
      | some d => match isAggD d with
        | true => match cellsAt cs off (P.cellsOf t) with
          | some l => some (.agg l.toArray)
          | none => none
        | false => cs[off]?
      | none => none) = some x) : ∃ y, (loadVar t ⟨l.blk, off + l.dis, none⟩).run P w = .ok y w ∧ VR ρ y x := by
  cases hd : P.underlying t with
  | none => simp [hd] at h
  | some d =>
    simp only [hd] at h
    obtain ⟨i, hi⟩ := info_of_underlying hd
    cases ha : isAggD d with
    | true =>
      simp only [ha] at h
      cases hc : cellsAt cs off (P.cellsOf t) with
      | none => simp [hc] at h
      | some us =>
        simp only [hc, Option.some.injEq] at h
        subst h
        obtain ⟨vs, h1, h2, h3⟩ := row_cells hb hc
        have hl := run_loadCells_list (P := P) w ⟨l.blk, off + l.dis, none⟩ vs h3
        rw [h2, cellsOf_info hi] at hl
        refine ⟨.agg vs.toArray, ?_, .agg _ _ h1.toArray.1 h1.toArray.2⟩
        simp [loadVar, run_isAgg hd, ha, run_sizeOf hi, hl]
    | false =>
      simp only [ha] at h
      obtain ⟨cc, e, fr, ho, hcell, _⟩ := hb
      obtain ⟨cv, h1, h2⟩ := hcell off x h
      refine ⟨cv, ?_, h2⟩
      have hce : w.cell? ⟨l.blk, off + l.dis, none⟩ = some cv := by rw [cell_of_row w l.blk _ cc e fr ho]; exact h1
      simp [loadVar, run_isAgg hd, ha, hce]

theorem aload_sound {P : Program} {ρ : Rn} {w : World} {H : Tr Blk} (hw : WR P ρ w H.get) {t : TypeId} {v u x : Value} (hv : VR ρ v u) (h : aload P H t u = some x) :
    ∃ y, (Instr.loadAt t v).run P w = .ok y w ∧ VR ρ y x := by
  unfold aload at h
  split at h
  · rename_i b off
    cases hv with
    | @ptr _ l _ hl =>
      split at h
      · rename_i fl elem cs hb
        obtain ⟨l', h1, h2⟩ := hw.blk b _ hb
        rw [hl] at h1
        obtain rfl : l = l' := by simpa using h1
        obtain ⟨y, hy, hxy⟩ := loadVar_sound h2 h
        exact ⟨y, by simp [Instr.loadAt, Instr.sureAddr, hy], hxy⟩
      · cases h
  · cases h

def splice {α : Type} (cs : List α) (off : Nat) (vs : List α) : List α := cs.take off ++ vs ++ cs.drop (off + vs.length)

theorem splice_nil {α : Type} (cs : List α) (off : Nat) : splice cs off [] = cs := by simp [splice]
theorem splice_length {α : Type} {cs vs : List α} {off : Nat} (h : off + vs.length ≤ cs.length) : (splice cs off vs).length = cs.length := by simp [splice]; omega
theorem splice_at {α : Type} {cs vs : List α} {off : Nat} (h : off + vs.length ≤ cs.length) (i : Nat) : (splice cs off vs)[i]? = if off ≤ i ∧ i < off + vs.length then vs[i - off]? else cs[i]? := by
  unfold splice
  by_cases h1 : i < off
  · rw [if_neg (by omega), List.append_assoc, List.getElem?_append_left (by simp; omega), List.getElem?_take, if_pos h1]
  · by_cases h2 : i < off + vs.length
    · rw [if_pos (by omega), List.getElem?_append_left (by simp; omega), List.getElem?_append_right (by simp; omega)]
      congr 1
      simp; omega
    · rw [if_neg (by omega), List.getElem?_append_right (by simp; omega), List.getElem?_drop]
      congr 1
      simp; omega

/-- Cells that are written, one behind the other. -/
def awrite (ro : Nat) (S : St) (b off : Nat) (vs : List Value) : Option St :=
  match vs with
  | [] => some S
  | _ => cond (Nat.ble ro b) (match S.h.get b with
    | some (.row fl e cs) => match fl with
      | .arg => none
      | _ => cond (Nat.ble (off + vs.length) cs.length && vs.all (·.oneCell')) (some ⟨S.h.set b (some (.row fl e (splice cs off vs))), S.next⟩) none
    | _ => none) none

theorem awrite_sound {P : Program} {ro : Nat} {ρ : Rn} {w : World} {S S' : St} (hw : WR P ρ w S.h.get) {b off : Nat} {l : Loc} (hl : ρ b = some l) {vs us : List Value} (hv : VRl ρ vs us) (h : awrite ro S b off us = some S') :
    ∃ w', (storeCells ⟨l.blk, off + l.dis, none⟩ vs).run P w = .ok () w' ∧ Post P ro ρ S.h.get S.next w ρ S'.h.get S'.next w' := by
  unfold awrite at h
  split at h
  · have : vs = [] := List.eq_nil_of_length_eq_zero (by have := hv.1; simpa using this)
    subst this
    simp only [Option.some.injEq] at h
    subst h
    exact ⟨w, by simp [storeCells], .refl hw⟩
  · rename_i hne
    rw [ble_eq] at h
    by_cases hro : ro ≤ b
    · simp only [hro, decide_true, cond_true] at h
      split at h
      · rename_i fl e cs hb
        have hkey : fl ≠ .arg → (cond (Nat.ble (off + us.length) cs.length && us.all (·.oneCell')) (some (⟨S.h.set b (some (.row fl e (splice cs off us))), S.next⟩ : St)) none) = some S' →
            ∃ w', (storeCells ⟨l.blk, off + l.dis, none⟩ vs).run P w = .ok () w' ∧ Post P ro ρ S.h.get S.next w ρ S'.h.get S'.next w' := by
          intro hfl h
          rw [ble_eq] at h
          cases hcond : (decide (off + us.length ≤ cs.length) && us.all (·.oneCell')) with
          | false => simp [hcond] at h
          | true =>
            simp only [hcond, cond_true, Option.some.injEq] at h
            subst h
            simp only [Bool.and_eq_true, decide_eq_true_eq] at hcond
            obtain ⟨hfit, hone⟩ := hcond
            obtain ⟨l', h1, h2⟩ := hw.blk b _ hb
            rw [hl] at h1
            obtain rfl : l = l' := by simpa using h1
            obtain ⟨cc, e', fr, ho, hcell, hflag⟩ := h2
            have hvl := hv.1
            have hfr : fr = (0, 0) := by cases fl <;> first | exact absurd rfl hfl | exact hflag.1
            subst hfr
            have hpos : 0 < us.length := by
              cases us with
              | nil => exact absurd rfl hne
              | cons => simp
            have hcc : off + l.dis + 0 + vs.length ≤ cc.size := by
              obtain ⟨cv, h3, _⟩ := hcell (off + us.length - 1) _ (List.getElem?_eq_getElem (by omega))
              have := (Array.getElem?_eq_some_iff.1 h3).1
              omega
            have hones : ∀ v ∈ vs, v.oneCell' = true := fun v hvm => by
              obtain ⟨i, hi, rfl⟩ := List.getElem_of_mem hvm
              have h5 := hv.getD i
              rw [List.getD_eq_getElem?_getD, List.getD_eq_getElem?_getD, List.getElem?_eq_getElem hi, List.getElem?_eq_getElem (show i < us.length by omega)] at h5
              simp only [Option.getD_some] at h5
              rw [h5.oneCell]
              exact List.all_eq_true.1 hone _ (by simp)
            have hrun := run_storeCells_at P l.blk (off + l.dis) e' vs 0 cc w ho hcc hones
            refine ⟨_, hrun, ?_⟩
            have hrow : (cc.toList.take (off + l.dis + 0) ++ vs ++ cc.toList.drop (off + l.dis + 0 + vs.length)) = splice cc.toList (off + l.dis) vs := by simp [splice]
            rw [hrow, get_set_eq]
            refine Post.turn hw hb hl hro _ (by simp) (by simp) (by simp) (by simp) ?_ (fun B hB => setRow_other w l.blk B _ hB)
            refine ⟨(splice cc.toList (off + l.dis) vs).toArray, e', (0, 0), setRow_heap w l.blk cc _ e' (0, 0) ho, fun i u hu => ?_, ?_⟩
            · rw [splice_at hfit] at hu
              simp only [List.getElem?_toArray]
              rw [splice_at (by simp; omega)]
              by_cases hi : off ≤ i ∧ i < off + us.length
              · rw [if_pos hi] at hu
                rw [if_pos (by omega), show i + l.dis - (off + l.dis) = i - off by omega]
                exact hv.at hu
              · rw [if_neg hi] at hu
                rw [if_neg (by omega)]
                simpa using hcell i u hu
            · cases fl with
              | arg => exact absurd rfl hfl
              | opn => exact ⟨rfl, by rw [← hflag.2]; simp [splice_length (cs := cc.toList) (vs := vs) (off := off + l.dis) (by simp; omega)]⟩
              | cls => exact ⟨rfl, by rw [splice_length hfit, ← hflag.2.1]; simp [splice_length (cs := cc.toList) (vs := vs) (off := off + l.dis) (by simp; omega)], hflag.2.2⟩
        cases fl with
        | arg => cases h
        | opn => exact hkey (by simp) h
        | cls => exact hkey (by simp) h
      · cases h
    · simp [hro] at h

def astore (P : Program) (ro : Nat) (S : St) (t : TypeId) (addr val : Value) : Option St :=
  match addr with
  | .pointer (some ⟨b, off, none⟩) =>
    match P.info? t with
    | some i => cond (Nat.beq val.cells.size i.size) (awrite ro S b off val.cells.toList) none
    | none => none
  | _ => none

theorem astore_sound {P : Program} {ro : Nat} {ρ : Rn} {w : World} {S S' : St} (hw : WR P ρ w S.h.get) {t : TypeId} {ca cv addr val : Value} (ha : VR ρ ca addr) (hv : VR ρ cv val) (h : astore P ro S t addr val = some S') :
    ∃ w', (Instr.storeAt t ca cv).run P w = .ok () w' ∧ Post P ro ρ S.h.get S.next w ρ S'.h.get S'.next w' := by
  unfold astore at h
  split at h
  · rename_i b off
    cases ha with
    | @ptr _ l _ hl =>
      split at h
      · rename_i i hi
        rw [cond_beq] at h
        split at h
        · rename_i hsz
          obtain ⟨w', h1, h2⟩ := awrite_sound hw hl hv.cells.toList h
          refine ⟨w', ?_, h2⟩
          have hc := hv.cells.1
          simp [Instr.storeAt, Instr.sureAddr, storeVar, run_sizeOf hi, hc, hsz, h1]
        · cases h
      · cases h
  · cases h

end Go.Ab

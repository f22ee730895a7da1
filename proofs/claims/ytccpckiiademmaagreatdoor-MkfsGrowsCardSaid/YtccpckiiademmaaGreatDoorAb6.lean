/-
  ABSTRACT HEAPS, part 6: new blocks; literals; append, copy, make; conversions.
-/
import Derived.Test.YtccpckiiademmaaGreatDoorAb5
set_option linter.unusedSimpArgs false
namespace Go.Ab

def St.new (S : St) (b : Blk) : St := ⟨S.h.set S.next (some b), S.next + 1⟩

/-- A step of an operation that yields a value. -/
def Done (P : Program) (ro : Nat) (ρ : Rn) (S : St) (w : World) (s : Sem Value) (u : Value) (S' : St) : Prop :=
  ∃ v w' ρ', s.run P w = .ok v w' ∧ Post P ro ρ S.h.get S.next w ρ' S'.h.get S'.next w' ∧ VR ρ' v u

theorem Done.pure {P : Program} {ro : Nat} {ρ : Rn} {S : St} {w : World} {s : Sem Value} {u : Value} (hw : WR P ρ w S.h.get) (h : ∃ v, s.run P w = .ok v w ∧ VR ρ v u) : Done P ro ρ S w s u S :=
  let ⟨v, h1, h2⟩ := h
  ⟨v, w, ρ, h1, .refl hw, h2⟩

theorem Post.newSt {P : Program} {ro : Nat} {ρ : Rn} {S : St} {w w' : World} (h : WR P ρ w S.h.get) (hf : FreeOn ρ S.next (S.next + 1)) (hro : ro ≤ S.next) (cap : Nat) (b : Blk) (o : Obj)
    (hheap : w'.heap = w.heap.push o) (hos : w'.os = w.os) (htape : w'.tape = w.tape) (hout : w'.output = w.output) (hb : BR P (rset ρ S.next ⟨w.heap.size, 0, cap⟩) (some o) b ⟨w.heap.size, 0, cap⟩) :
    Post P ro ρ S.h.get S.next w (rset ρ S.next ⟨w.heap.size, 0, cap⟩) (S.new b).h.get (S.new b).next w' := by
  unfold St.new
  rw [get_set_eq]
  exact Post.new h (hf _ (Nat.le_refl _) (by omega)) hro _ rfl b o hheap hos htape hout hb

theorem BR.newRow {P : Program} {ρ : Rn} {n : Nat} (hn : ρ n = none) {l : Loc} (hd : l.dis = 0) {fl : Fl} {e e' : TypeId} {fr : Nat × Nat} {vs us : List Value} (hv : VRl ρ vs us) (rest : List Value)
    (hfl : match fl with
      | .arg => True
      | .opn => fr = (0, 0) ∧ (vs ++ rest).length = l.cap * P.cellsOf e
      | .cls => fr = (0, 0) ∧ rest = []) :
    BR P (rset ρ n l) (some (Obj.cells (vs ++ rest).toArray e' fr)) (Blk.row fl e us) l := by
  refine ⟨_, e', fr, rfl, fun i u hu => ?_, ?_⟩
  · obtain ⟨x, h1, h2⟩ := hv.at hu
    have hi : i < vs.length := (List.getElem?_eq_some_iff.1 h1).1
    refine ⟨x, ?_, h2.mono (.rset hn l)⟩
    rw [hd]
    simp only [Nat.add_zero, List.getElem?_toArray]
    rw [List.getElem?_append_left hi]; exact h1
  · cases fl with
    | arg => trivial
    | opn => exact ⟨hfl.1, by simpa [hd] using hfl.2⟩
    | cls => exact ⟨hfl.1, by rw [hfl.2]; simpa using hv.1, hd⟩

def azero (P : Program) (t : TypeId) : Option Value :=
  match P.info? t with
  | some i => match i.zero with
    | some z => cond (cleanB 50 z) (some z) none
    | none => none
  | none => none

theorem azero_spec {P : Program} {t : TypeId} {z : Value} (h : azero P t = some z) : (∃ i, P.info? t = some i ∧ i.zero = some z) ∧ ∀ ρ, VR ρ z z := by
  unfold azero at h
  split at h
  · rename_i i hi
    split at h
    · rename_i z' hz
      cases hc : cleanB 50 z' with
      | false => simp [hc] at h
      | true =>
        simp only [hc, cond_true, Option.some.injEq] at h
        subst h
        exact ⟨⟨i, hi, hz⟩, fun ρ => cleanB_VR ρ 50 _ hc⟩
    · cases h
  · cases h

def abox (S : St) (t : TypeId) (v : Value) : Value × St := (.pointer (some ⟨S.next, 0, none⟩), S.new (.row .cls t v.cells.toList))

theorem newVar_done {P : Program} {ro : Nat} {ρ : Rn} {S : St} {w : World} (hw : WR P ρ w S.h.get) (hf : FreeOn ρ S.next (S.next + 1)) (hro : ro ≤ S.next) {t : TypeId} {v u : Value} (hv : VR ρ v u) :
    Done P ro ρ S w (do pure (.pointer (some (← newVar t v)))) (abox S t u).1 (abox S t u).2 := by
  have hb := BR.newRow (P := P) (hf _ (Nat.le_refl _) (by omega)) (l := ⟨w.heap.size, 0, 0⟩) rfl (fl := .cls) (e := t) (e' := t) (fr := (0, 0)) hv.cells.toList [] ⟨rfl, rfl⟩
  refine ⟨.pointer (some ⟨w.heap.size, 0, none⟩), w.alloc (.cells v.cells t), rset ρ S.next ⟨w.heap.size, 0, 0⟩, by simp [newVar, newRow], ?_, ?_⟩
  · exact Post.newSt hw hf hro 0 _ (.cells v.cells t) rfl rfl rfl rfl (by simpa using hb)
  · exact .ptr (l := ⟨w.heap.size, 0, 0⟩) 0 (rset_same _ _ _)

theorem abox_sound {P : Program} {ro : Nat} {ρ : Rn} {S : St} {w : World} (hw : WR P ρ w S.h.get) (hf : FreeOn ρ S.next (S.next + 1)) (hro : ro ≤ S.next) {t : TypeId} {v u : Value} (hv : VR ρ v u) :
    Done P ro ρ S w (Instr.box t v) (abox S t u).1 (abox S t u).2 := newVar_done hw hf hro hv

theorem aalloc_sound {P : Program} {ro : Nat} {ρ : Rn} {S : St} {w : World} (hw : WR P ρ w S.h.get) (hf : FreeOn ρ S.next (S.next + 1)) (hro : ro ≤ S.next) {t : TypeId} {z : Value} (hz : azero P t = some z) :
    Done P ro ρ S w (Instr.alloc t true (.tuple #[])) (abox S t z).1 (abox S t z).2 := by
  obtain ⟨⟨i, hi, hzi⟩, hv⟩ := azero_spec hz
  obtain ⟨v, w', ρ', h1, h2, h3⟩ := newVar_done (P := P) (t := t) hw hf hro (hv ρ)
  exact ⟨v, w', ρ', by simpa [Instr.alloc, run_zeroValue hi hzi] using h1, h2, h3⟩

/-! ### literals -/

def arep {α : Type} (z : List α) : Nat → List α
  | 0 => []
  | k + 1 => z ++ arep z k

theorem arep_length {α : Type} (z : List α) : ∀ k, (arep z k).length = k * z.length
  | 0 => by simp [arep]
  | k + 1 => by simp [arep, arep_length z k, Nat.succ_mul]; omega

theorem arep_at {α : Type} (z : List α) : ∀ (k i : Nat), i < k * z.length → (arep z k)[i]? = z[i % z.length]?
  | 0, i, h => by omega
  | k + 1, i, h => by
    simp only [arep]
    by_cases hi : i < z.length
    · rw [List.getElem?_append_left hi, Nat.mod_eq_of_lt hi]
    · rw [List.getElem?_append_right (by omega), arep_at z k (i - z.length) (by rw [Nat.succ_mul] at h; omega)]
      rw [Nat.mod_eq_sub_mod (by omega : i ≥ z.length)]

theorem VRl.arep {ρ : Rn} {xs ys : List Value} (h : VRl ρ xs ys) : ∀ k, VRl ρ (arep xs k) (arep ys k)
  | 0 => .nil ρ
  | k + 1 => .append h (VRl.arep h k)

theorem range_map_arep (z : Array Value) (k n : Nat) (hn : n = k * z.size) : ((Array.range n).map fun i => z[i % z.size]!) = (arep z.toList k).toArray := by
  subst hn
  apply Array.ext'
  apply List.ext_getElem?
  intro i
  by_cases hi : i < k * z.size
  · have h2 := arep_at z.toList k i (by simpa using hi)
    have hz : 0 < z.size := Nat.pos_of_ne_zero (fun e => by rw [e] at hi; simp at hi)
    have hm : i % z.size < z.size := Nat.mod_lt _ hz
    simp only [h2]
    simp [hi, hm]
  · have h3 : (arep z.toList k).length ≤ i := by rw [arep_length]; simpa using (by omega : k * z.size ≤ i)
    simp only [List.getElem?_eq_none h3]
    simp; omega

theorem zeroCells_arep (z : Array Value) (n : Nat) : Builtin.zeroCells z n = (arep z.toList n).toArray := range_map_arep z n _ rfl

def afill (place : Nat → Option (Nat × Nat)) (cells : List Value) : List (Nat × Value) → Option (List Value)
  | [] => some cells
  | (i, v) :: rest =>
    match place i with
    | none => none
    | some (off, size) => cond (Nat.beq v.cells.size size && Nat.ble (off + size) cells.length) (afill place (splice cells off v.cells.toList) rest) none

theorem foldl_splice : ∀ (vs : List Value) (k off : Nat) (cells : Array Value), off + k + vs.length ≤ cells.size →
    (((vs.zipIdx k).foldl (fun cs (x : Value × Nat) => cs.setIfInBounds (off + x.2) x.1) cells) : Array Value).toList = splice cells.toList (off + k) vs
  | [], k, off, cells, _ => by simp [splice]
  | v :: vs, k, off, cells, h => by
    simp only [List.length_cons] at h
    simp only [List.zipIdx_cons, List.foldl_cons]
    rw [foldl_splice vs (k + 1) off _ (by simp; omega)]
    have := list_seg_step cells.toList (off + k) v vs (by simp; omega)
    unfold splice
    simp only [Array.toList_setIfInBounds, List.length_cons]
    rw [← Nat.add_assoc off k 1, show off + k + 1 + vs.length = off + k + (vs.length + 1) by omega] 
    rw [show off + k + 1 + vs.length = off + k + (vs.length + 1) by omega] at this
    exact this

def PRl (ρ : Rn) : List (Nat × Value) → List (Nat × Value) → Prop
  | [], [] => True
  | (i, v) :: xs, (j, u) :: ys => i = j ∧ VR ρ v u ∧ PRl ρ xs ys
  | _, _ => False

theorem afill_sound {ρ : Rn} {place : Nat → Option (Nat × Nat)} : ∀ {parts' parts : List (Nat × Value)} {cs us r : List Value}, VRl ρ cs us → PRl ρ parts' parts → afill place us parts = some r →
    ∃ cells, Instr.fill place cs.toArray parts' = some cells ∧ VRl ρ cells.toList r
  | [], [], cs, us, r, hv, _, h => by
    simp only [afill, Option.some.injEq] at h; subst h
    exact ⟨cs.toArray, by simp [Instr.fill], by simpa using hv⟩
  | [], _ :: _, cs, us, r, hv, hp, h => hp.elim
  | _ :: _, [], cs, us, r, hv, hp, h => hp.elim
  | (i, v) :: xs, (j, u) :: ys, cs, us, r, hv, hp, h => by
    obtain ⟨rfl, hvu, hp⟩ := hp
    simp only [afill] at h
    split at h
    · cases h
    · rename_i off size hpl
      rw [ble_eq] at h
      by_cases hc : (Nat.beq u.cells.size size && decide (off + size ≤ us.length)) = true
      · rw [hc] at h
        simp only [cond_true] at h
        simp only [Bool.and_eq_true, decide_eq_true_eq] at hc
        have hc1 := Nat.eq_of_beq_eq_true hc.1
        have hcv := hvu.cells
        have h1 := hcv.1
        have h2 := hv.1
        have hsp : (v.cells.toList.zipIdx.foldl (fun cs (x : Value × Nat) => cs.setIfInBounds (off + x.2) x.1) cs.toArray).toList = splice cs off v.cells.toList := by
          have := foldl_splice v.cells.toList 0 off cs.toArray (by simp; omega)
          simpa using this
        have hrel : VRl ρ (splice cs off v.cells.toList) (splice us off u.cells.toList) := by
          unfold splice
          rw [show v.cells.toList.length = u.cells.toList.length by simpa using h1]
          exact .append (.append (hv.take off) hcv.toList) (hv.drop _)
        obtain ⟨cells, h3, h4⟩ := afill_sound hrel hp h
        refine ⟨cells, ?_, h4⟩
        have hg : (v.cells.size ≠ size || off + v.cells.size > cs.toArray.size) = false := by simp; omega
        have harr : (Array.foldl (fun cs (x : Value × Nat) => cs.setIfInBounds (off + x.snd) x.fst) cs.toArray v.cells.zipIdx) = (splice cs off v.cells.toList).toArray := by
          apply Array.ext'
          rw [← Array.foldl_toList, Array.toList_zipIdx]
          exact hsp
        simp only [Instr.fill, hpl]
        rw [if_neg (by simp; omega)]
        rw [← h3]
        congr 1
      · have : (Nat.beq u.cells.size size && decide (off + size ≤ us.length)) = false := by simpa using hc
        rw [this] at h
        cases h

end Go.Ab

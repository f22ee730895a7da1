/-
  entry.All of no bytes: none, and no error.
-/
import Derived.Test.YtccpckiiademmaaGreatDoorPr
import Derived.Test.YtccpckiiademmaaGreatDoorKb2
import Derived.RangeFuncOwn
import Derived.RangeFuncLeaves
import Derived.WalkKit
import Derived.OwnWalkIn
import Derived.TacticsInMore
import Derived.RegionIn
import Derived.LoopNIn
import Derived.LoopIn
import Derived.RangeFuncBox
import Derived.Shelf.Abstract
set_option linter.unusedSimpArgs false
set_option linter.unusedVariables false
namespace Go.Proofs.YtccpckiiademmaaGreatDoor
open Go Go.Proofs Go.RowKit Go.Ab

/-- No summaries; names of variables alone. -/
noncomputable def gb0 : Summ := fun _ => none
theorem gb0_ok : SummOK Tryz.prog gb0 := fun g s h => by cases h
def ρ0 : Rn := fun n => if n < NG then some ⟨n, 0, 0⟩ else none
theorem ρ0_free {c c' : Nat} (h : NG ≤ c) : FreeOn ρ0 c c' := fun n h1 _ => if_neg (by omega)
theorem ρ0_WR {w : World} : WR Tryz.prog ρ0 w S0.h.get := ⟨fun m n bm bn lm ln hm => by simp [S0, Tr.get] at hm, fun n b hb => by simp [S0, Tr.get] at hb, fun g hg => ⟨0, if_pos hg⟩⟩

set_option maxRecDepth 100000 in
set_option maxHeartbeats 1000000 in
theorem chunk1_nil_in (F : Fence) (n : Nat) (h1 : F.fn 236) (hro : F.round = none) (l Bs Bn c : Nat) (J : List Empty → World → Prop) (W : World) (hm : W.cell? ⟨Bs, 0, none⟩ = some (.slice none 0 c)) (h0 : J [] W) :
    CallsIn F n Tryz.prog 236 #[.func (.yield l) #[] #[], .pointer (some ⟨Bs, 0, none⟩), .pointer (some ⟨Bn, 0, none⟩)] W fun e W' => (∃ v, e = .returned v) ∧ ∃ ss : List Empty, ss = [] ∧ J ss W' := by
  refine callsIn_of_wp Tryz.func236 rfl h1 ?_ hro
  simp only [Tryz.ntmps236, List.size_toArray, List.length_cons, List.length_nil, Nat.reduceAdd, Nat.reduceSub, Array.replicate_succ, Array.replicate_zero, List.push_toArray, List.append_toArray, List.nil_append, List.cons_append]
  gi_wp2
  refine wpIn_loop_rounds 1 ?_
  rw [roundsIn_succ]
  gi_wp2
  go_end0
  exact ⟨⟨_, rfl⟩, [], rfl, h0⟩

set_option maxRecDepth 100000 in
set_option maxHeartbeats 1000000 in
theorem chunk_in (F : Fence) (n : Nat) (h1 : F.fn 211) (hro : F.round = none) (c : Nat) (W : World) :
    CallsIn F n Tryz.prog 211 #[.slice none 0 c, .int .i64 64] W fun e W' => e = .returned (.func (.func 236) #[] #[.pointer (some ⟨W.heap.size, 0, none⟩), .pointer (some ⟨W.heap.size + 1, 0, none⟩)]) ∧ W' = (W.alloc (.cells #[.slice none 0 c] 112)).alloc (.cells #[.int .i64 64] 3) := by
  refine callsIn_of_wp Tryz.func211 rfl h1 ?_ hro
  simp only [Tryz.ntmps211, List.size_toArray, List.length_cons, List.length_nil, Nat.reduceAdd, Nat.reduceSub, Array.replicate_succ, Array.replicate_zero, List.push_toArray, List.append_toArray, List.nil_append, List.cons_append]
  gi_wp2
  go_ret
  exact ⟨by simp, rfl⟩

theorem twice_nil (c : Nat) (w : World) : Calls Tryz.prog 213 #[.slice none 0 c, .func (.func 214) #[] #[]] w fun e w' => e = .returned (.bool false) ∧ Below w.heap.size w w' := by
  have h0 : res (Go.Ab.acall Tryz.prog kn gb0 1000 16 213 [.slice none 0 c, .func (.func 214) #[] #[]] S0) = some (.bool false) := by kernel_rfl
  obtain ⟨S1, h1⟩ := res_some h0
  have hargs : VRl ρ0 (#[Value.slice none 0 c, .func (.func 214) #[] #[]]).toList [.slice none 0 c, .func (.func 214) #[] #[]] := .cons (.nilslice 0 c) (.cons (.func _ _ _ rfl (fun i hi => by simp at hi)) (.nil _))
  refine (acall_ok progOK gb0_ok 1000 16 _ _ S0 _ S1 h1 S0_wf ρ0 w _ ρ0_WR hargs (ρ0_free (by decide)) (by decide)).mono ?_
  rintro e w' ⟨cv, ρ', rfl, hp, hv⟩
  cases hv
  exact ⟨rfl, hp.os, hp.tape, hp.output, hp.size, fun B hB => hp.frame B hB (fun n b l _ h => by simp [S0, Tr.get] at h)⟩

theorem set_box {W : World} {B : Nat} {v : Value} {t : TypeId} (v' : Value) (h : W.heap[B]? = some (.cells #[v] t (0, 0))) : (W.setCell ⟨B, 0, none⟩ v').heap[B]? = some (.cells #[v'] t (0, 0)) := by
  simp [World.setCell, Array.getElem?_modify, h]
theorem at_new (w : World) (o : Obj) {k : Nat} (hk : k = w.heap.size) : (w.alloc o).heap[k]? = some o := by subst hk; exact World.alloc_heap_new w o
theorem at_old {w : World} {o : Obj} {k : Nat} {x : Obj} (h : w.heap[k]? = some x) : (w.alloc o).heap[k]? = some x := (Below.heap_alloc w o k (Array.getElem?_eq_some_iff.1 h).1).trans h

theorem cell_box {W : World} {B : Nat} {v : Value} {t : TypeId} (h : W.heap[B]? = some (.cells #[v] t (0, 0))) : W.cell? ⟨B, 0, none⟩ = some v ∧ W.frozen? ⟨B, 0, none⟩ = false := by
  constructor <;> simp [World.cell?, World.frozen?, h]

/-- A range over the chunks of no bytes. -/
theorem rangeNil {n : Nat} (hn : 1 ≤ n) {g : Operand} {ps : Array Tmp} {assign body : Code} {Q : Exit → Act → World → Prop} {a : Act} {w : World} {B N c : Nat}
    (hg : a.eval g = .func (.func 236) #[] #[.pointer (some ⟨B, 0, none⟩), .pointer (some ⟨N, 0, none⟩)]) (hB : w.heap[B]? = some (.cells #[.slice none 0 c] 112 (0, 0)))
    (hdone : ∀ D W, Below w.heap.size w W → w.heap.size ≤ D → W.heap[D]? = some (.deferred (some [])) → Q .normal { a with defers := { target := .collected D, args := #[] } :: a.defers } W) :
    (Code.rangeFunc g ps assign body).wpIn Fence.wide n Tryz.prog Q a w := by
  refine wpIn_rangeFunc ?_
  intro fn hfn
  obtain ⟨rec, hrec⟩ : ∃ rec : LoopState → Option Code → Loop, rec = fun st pe => { state := st, pending := pe, fn, tmps := a.tmps, params := ps, assign, body, defers := w.heap.size } := ⟨_, rfl⟩
  obtain ⟨W1, hW1⟩ : ∃ W1, (w.alloc (.deferred (some []))).alloc (.loop (rec .ready none)) = W1 := ⟨_, rfl⟩
  have hL1 : W1.heap[w.heap.size + 1]? = some (.loop (rec .ready none)) := by rw [← hW1]; exact at_new _ _ (by simp)
  have hK1 : W1.heap[w.heap.size]? = some (.deferred (some [])) := by rw [← hW1]; exact at_old (at_new _ _ rfl)
  have hB1 : W1.heap[B]? = some (.cells #[.slice none 0 c] 112 (0, 0)) := by rw [← hW1]; exact at_old (at_old hB)
  have hb1 : Below w.heap.size w W1 := by rw [← hW1]; exact ((Below.refl _ w).alloc (Nat.le_refl _) _).alloc (by simp) _
  refine ⟨w.heap.size + 1, [{ target := .collected w.heap.size, args := #[] }], W1, { target := .fn (.func 236) #[.pointer (some ⟨B, 0, none⟩), .pointer (some ⟨N, 0, none⟩)], args := #[.func (.yield (w.heap.size + 1)) #[] #[]] }, W1, 236,
    #[.func (.yield (w.heap.size + 1)) #[] #[]] ++ #[.pointer (some ⟨B, 0, none⟩), .pointer (some ⟨N, 0, none⟩)], W1, ?_, ?_, ?_, ?_, fun _ => hn, ?_⟩
  · rw [← hW1, hrec]; exact run_enterLoop_outer _ _ _ _ _
  · simp only [resolve, hg]
    simp [go_sem]
  · intro f' hf'; trivial
  · have eg := enters_of Tryz.func236 (by kernel_rfl) rfl
    simp [invoke, go_sem, eg]
  · refine (chunk1_nil_in Fence.wide (n - 1) trivial rfl (w.heap.size + 1) B N c (fun _ W => W = W1) W1 (cell_box hB1).1 rfl).mono ?_
    rintro e W2 ⟨⟨v, rfl⟩, _, _, rfl⟩
    have hend := run_endLoop (P := Tryz.prog) hL1 (by rw [hrec]; simp)
    obtain ⟨W3, hW3⟩ : ∃ W3, W2.putObj (w.heap.size + 1) (.loop { rec .ready none with state := .exhausted }) = W3 := ⟨_, rfl⟩
    rw [hW3] at hend
    refine ⟨none, W3, ?_, hdone w.heap.size W3 ?_ (Nat.le_refl _) ?_⟩
    · rw [hrec] at hend; exact hend
    · rw [← hW3]; exact hb1.grown (grownBy_putObj' W2 (w.heap.size + 1) _) hb1.size (fun k e => by cases e; omega)
    · rw [← hW3]; exact (World.putObj_heap_other (by omega)).trans hK1

set_option maxRecDepth 100000 in
set_option maxHeartbeats 2000000 in
theorem allNil_in (c : Nat) (w : World) :
    CallsIn Fence.wide 5 Tryz.prog 173 #[.slice none 0 c] w fun e w' => e = .returned (.tuple #[.slice none 0 0, .int .i64 0]) ∧ Below w.heap.size w w' := by
  refine callsIn_of_wp_marks Tryz.func173 rfl trivial ?_ rfl
  simp only [Tryz.ntmps173, List.size_toArray, List.length_cons, List.length_nil, Nat.reduceAdd, Nat.reduceSub, Array.replicate_succ, Array.replicate_zero, List.push_toArray, List.append_toArray, List.nil_append, List.cons_append]
  gi_wp2
  refine ⟨trivial, (chunk_in Fence.wide 4 trivial rfl c _).mono ?_⟩
  rintro e w' ⟨rfl, rfl⟩
  gi_wp2
  obtain ⟨W0, hW0⟩ : ∃ W0, (((((w.alloc (.cells #[.slice none 0 0] 212)).alloc (.cells #[.int .i64 0] 30)).alloc (.cells #[.slice none 0 0] 212)).alloc (.cells #[.slice none 0 c] 112)).alloc (.cells #[.int .i64 64] 3)) = W0 := ⟨_, rfl⟩
  rw [hW0]
  have hs0 : W0.heap.size = w.heap.size + 1 + 1 + 1 + 1 + 1 := by rw [← hW0]; simp
  have hb0 : Below w.heap.size w W0 := by
    rw [← hW0]
    exact (((((Below.refl _ w).alloc (Nat.le_refl _) _).alloc (by simp) _).alloc (by simp; omega) _).alloc (by simp; omega) _).alloc (by simp; omega) _
  have hc2 : W0.heap[w.heap.size]? = some (.cells #[.slice none 0 0] 212 (0, 0)) := by rw [← hW0]; exact at_old (at_old (at_old (at_old (at_new _ _ rfl))))
  have hc3 : W0.heap[w.heap.size + 1]? = some (.cells #[.int .i64 0] 30 (0, 0)) := by rw [← hW0]; exact at_old (at_old (at_old (at_new _ _ (by simp))))
  have hc4 : W0.heap[w.heap.size + 1 + 1]? = some (.cells #[.slice none 0 0] 212 (0, 0)) := by rw [← hW0]; exact at_old (at_old (at_new _ _ (by simp)))
  have hc5 : W0.heap[w.heap.size + 1 + 1 + 1]? = some (.cells #[.slice none 0 c] 112 (0, 0)) := by rw [← hW0]; exact at_old (at_new _ _ (by simp))
  refine rangeNil (by omega) rfl hc5 ?_
  intro D W hbW hD hKW
  have d2 := (hbW.block w.heap.size (by omega)).trans hc2
  have d3 := (hbW.block (w.heap.size + 1) (by omega)).trans hc3
  have d4 := (hbW.block (w.heap.size + 1 + 1) (by omega)).trans hc4
  obtain ⟨e4, _⟩ := cell_box d4
  obtain ⟨e2, f2⟩ := cell_box d2
  obtain ⟨e3, f3⟩ := cell_box d3
  clear hW0
  gi_wp2
  refine ⟨trivial, (callsIn_wide.2 (twice_nil 0 W)).mono ?_⟩
  rintro e W3 ⟨rfl, hb3⟩
  have hsz := hbW.size
  have g2 := (hb3.block w.heap.size (by omega)).trans d2
  have g3 := (hb3.block (w.heap.size + 1) (by omega)).trans d3
  have g4 := (hb3.block (w.heap.size + 1 + 1) (by omega)).trans d4
  have gK := (hb3.block D (Array.getElem?_eq_some_iff.1 hKW).1).trans hKW
  have hb4 : Below w.heap.size w W3 := (hb0.trans (hbW.mono (by omega))).trans (hb3.mono (by omega))
  obtain ⟨k4, _⟩ := cell_box g4
  obtain ⟨k2, l2⟩ := cell_box g2
  obtain ⟨k3, l3⟩ := cell_box g3
  gi_wp2
  have m2 : ∀ (v v' : Value), (World.setCell (World.setCell W3 ⟨w.heap.size, 0, none⟩ v) ⟨w.heap.size + 1, 0, none⟩ v').heap[D]? = some (.deferred (some [])) := fun v v' => by
    rw [Below.heap_setCell _ _ _ _ (by simp; omega), Below.heap_setCell _ _ _ _ (by simp; omega)]; exact gK
  have c2 : (((W3.setCell ⟨w.heap.size, 0, none⟩ (.slice none 0 0)).setCell ⟨w.heap.size + 1, 0, none⟩ (.int .i64 0)).putObj D (.deferred none)).heap[w.heap.size]? = some (.cells #[.slice none 0 0] 212 (0, 0)) := by
    rw [World.putObj_heap_other (by omega), Below.heap_setCell _ _ _ _ (by simp)]
    exact set_box _ g2
  have c3 : (((W3.setCell ⟨w.heap.size, 0, none⟩ (.slice none 0 0)).setCell ⟨w.heap.size + 1, 0, none⟩ (.int .i64 0)).putObj D (.deferred none)).heap[w.heap.size + 1]? = some (.cells #[.int .i64 0] 30 (0, 0)) := by
    rw [World.putObj_heap_other (by omega)]
    exact set_box _ ((Below.heap_setCell _ _ _ _ (by simp)).trans g3)
  refine ⟨by simp, .inl ⟨_, _, rfl, run_takeDeferred (m2 _ _), ?_⟩⟩
  refine ⟨.tuple #[.slice none 0 0, .int .i64 0], ?_, rfl, ?_⟩
  · refine results_run (vs := [.slice none 0 0, .int .i64 0]) ?_
    obtain ⟨q2, _⟩ := cell_box c2
    obtain ⟨q3, _⟩ := cell_box c3
    simp [Tryz.results173, List.mapM_cons, res1, loadVar, go_sem, q2, q3]
  · exact ((hb4.setCell (by simp) _).setCell (by simp) _).grown (grownBy_putObj' _ _ _) (by have := hb4.size; simp [World.setCell]; omega) (fun k e => by cases e; omega)

theorem allNil (c : Nat) (w : World) : Calls Tryz.prog 173 #[.slice none 0 c] w fun e w' => e = .returned (.tuple #[.slice none 0 0, .int .i64 0]) ∧ Below w.heap.size w w' := callsIn_wide.1 (allNil_in c w)

/-- What it comes to, as a summary. -/
def allNilF : List Value → Option Value
  | [.slice none 0 _] => some (.tuple #[.slice none 0 0, .int .i64 0])
  | _ => none

/-- Behind a call that leaves memory alone. -/
theorem post_below {P : Program} {ro : Nat} {ρ : Rn} {S : St} {w w' : World} (hw : WR P ρ w S.h.get) (hb : Below w.heap.size w w') : Post P ro ρ S.h.get S.next w ρ S.h.get S.next w' :=
  ⟨Nat.le_refl _, fun _ _ => rfl, hw.of_heap (fun n b l h1 h2 => hb.block _ (hw.lt h1 h2)), hb.os, hb.tape, hb.output, hb.size, fun B hB _ => hb.block B hB, fun n b l h1 h2 => by omega, fun n b _ h => ⟨b, h⟩, fun _ _ => rfl⟩

theorem allNil_ok {summ : Summ} (h : SummOK Tryz.prog summ) : SummOK Tryz.prog (addS 173 (pureS allNilF) summ) := by
  refine addS_ok h ?_
  intro g' s hs ro args S v S' hrun hwf ρ w cargs hw hargs hfr hro
  cases hb : Nat.beq g' 173 with
  | false => simp only [hb] at hs; cases hs
  | true =>
    simp only [hb, cond_true, Option.some.injEq] at hs
    subst hs
    obtain rfl := Nat.eq_of_beq_eq_true hb
    unfold pureS at hrun
    split at hrun
    · rename_i u hu
      simp only [Option.some.injEq, Prod.mk.injEq] at hrun
      obtain ⟨rfl, rfl⟩ := hrun
      unfold allNilF at hu
      split at hu
      · rename_i c
        simp only [Option.some.injEq] at hu
        subst hu
        have hca := hargs.clean_eq (us := [.slice none 0 c]) rfl
        have hca' : cargs = #[.slice none 0 c] := by apply Array.ext'; simpa using hca
        subst hca'
        refine (allNil c w).mono ?_
        rintro e w' ⟨rfl, hb⟩
        exact ⟨_, ρ, rfl, post_below hw hb, cleanB_VR ρ 50 _ rfl⟩
      · cases hu
    · cases hrun

end Go.Proofs.YtccpckiiademmaaGreatDoor

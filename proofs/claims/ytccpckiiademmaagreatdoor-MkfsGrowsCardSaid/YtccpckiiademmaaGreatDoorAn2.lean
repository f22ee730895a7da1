/-
  slices.AppendSeq(nil, maps.Keys(m)) of a map without entries: nil.
-/
import Derived.Test.YtccpckiiademmaaGreatDoorAn1
set_option linter.unusedSimpArgs false
set_option linter.unusedVariables false
namespace Go.Proofs.YtccpckiiademmaaGreatDoor
open Go Go.Proofs Go.RowKit Go.Ab

theorem run_range_empty (W : World) {b clock : Nat} (hb : W.heap[b]? = some (.map #[] clock)) :
    (Instr.range 170 (.map (some b))).run Tryz.prog W = .ok (.pointer (some ⟨W.heap.size, 0, none⟩)) (W.alloc (.mapIter (some b) clock #[] clock)) := by
  simp [Instr.range, Tryz.underlying170, go_sem, getObj, Sem.run, hb, run_getObj' hb rfl]

theorem run_next_empty (W : World) {r b clock since last : Nat} (hr : W.heap[r]? = some (.mapIter (some b) since #[] last)) (hb : W.heap[b]? = some (.map #[] clock)) (ty : TypeId) :
    (Instr.next (.pointer (some ⟨r, 0, none⟩)) false ty).run Tryz.prog W = .ok (.tuple #[.bool false]) W := by
  simp [Instr.next, getObj, Sem.run, hb, hr, choose, Question.forced]

set_option maxRecDepth 100000 in
set_option maxHeartbeats 1000000 in
theorem keys1_empty_in (F : Fence) (n : Nat) (h1 : F.fn 177) (hro : F.round = none) (l blk off b clock : Nat) (W : World) (hm : W.cell? ⟨blk, off, none⟩ = some (.map (some b))) (hb : W.heap[b]? = some (.map #[] clock)) :
    CallsIn F n Tryz.prog 177 #[.func (.yield l) #[] #[], .pointer (some ⟨blk, off, none⟩)] W fun e W' => (∃ v, e = .returned v) ∧ W' = W.alloc (.mapIter (some b) clock #[] clock) := by
  refine callsIn_of_wp Tryz.func177 rfl h1 ?_ hro
  simp only [Tryz.ntmps177, List.size_toArray, List.length_cons, List.length_nil, Nat.reduceAdd, Nat.reduceSub, Array.replicate_succ, Array.replicate_zero, List.push_toArray, List.append_toArray, List.nil_append, List.cons_append]
  have hrg := run_range_empty W hb
  have hnx : ∀ ty, (Instr.next (.pointer (some ⟨W.heap.size, 0, none⟩)) false ty).run Tryz.prog (W.alloc (.mapIter (some b) clock #[] clock)) = _ := fun ty => run_next_empty _ (at_new _ _ rfl) (at_old hb) ty
  gi_wp2
  refine wpIn_loop_rounds 1 ?_
  rw [roundsIn_succ]
  gi_wp2
  go_end0
  exact ⟨⟨_, rfl⟩, rfl⟩

/-- A range over the keys of a map without entries. -/
theorem rangeKeys0 {n : Nat} (hn : 1 ≤ n) {g : Operand} {ps : Array Tmp} {assign body : Code} {Q : Exit → Act → World → Prop} {a : Act} {w : World} {blk off b clock : Nat}
    (hg : a.eval g = .func (.func 177) #[] #[.pointer (some ⟨blk, off, none⟩)]) (hm : w.cell? ⟨blk, off, none⟩ = some (.map (some b))) (hb : w.heap[b]? = some (.map #[] clock))
    (hdone : ∀ D W, Below w.heap.size w W → w.heap.size ≤ D → W.heap[D]? = some (.deferred (some [])) → Q .normal { a with defers := { target := .collected D, args := #[] } :: a.defers } W) :
    (Code.rangeFunc g ps assign body).wpIn Fence.wide n Tryz.prog Q a w := by
  refine wpIn_rangeFunc ?_
  intro fn hfn
  obtain ⟨rec, hrec⟩ : ∃ rec : LoopState → Option Code → Loop, rec = fun st pe => { state := st, pending := pe, fn, tmps := a.tmps, params := ps, assign, body, defers := w.heap.size } := ⟨_, rfl⟩
  obtain ⟨W1, hW1⟩ : ∃ W1, (w.alloc (.deferred (some []))).alloc (.loop (rec .ready none)) = W1 := ⟨_, rfl⟩
  have hL1 : W1.heap[w.heap.size + 1]? = some (.loop (rec .ready none)) := by rw [← hW1]; exact at_new _ _ (by simp)
  have hK1 : W1.heap[w.heap.size]? = some (.deferred (some [])) := by rw [← hW1]; exact at_old (at_new _ _ rfl)
  have hb1 : W1.heap[b]? = some (.map #[] clock) := by rw [← hW1]; exact at_old (at_old hb)
  have hbW : Below w.heap.size w W1 := by rw [← hW1]; exact ((Below.refl _ w).alloc (Nat.le_refl _) _).alloc (by simp) _
  have hlt : blk < w.heap.size := by
    unfold World.cell? at hm
    cases h : w.heap[blk]? with
    | none => rw [h] at hm; cases hm
    | some o => exact (Array.getElem?_eq_some_iff.1 h).1
  have hm1 : W1.cell? ⟨blk, off, none⟩ = some (.map (some b)) := (hbW.cell (p := ⟨blk, off, none⟩) hlt).trans hm
  refine ⟨w.heap.size + 1, [{ target := .collected w.heap.size, args := #[] }], W1, { target := .fn (.func 177) #[.pointer (some ⟨blk, off, none⟩)], args := #[.func (.yield (w.heap.size + 1)) #[] #[]] }, W1, 177,
    #[.func (.yield (w.heap.size + 1)) #[] #[]] ++ #[.pointer (some ⟨blk, off, none⟩)], W1, ?_, ?_, ?_, ?_, fun _ => hn, ?_⟩
  · rw [← hW1, hrec]; exact run_enterLoop_outer _ _ _ _ _
  · simp only [resolve, hg]
    simp [go_sem]
  · intro f' hf'; trivial
  · have eg := enters_of Tryz.func177 (by kernel_rfl) rfl
    simp [invoke, go_sem, eg]
  · refine (keys1_empty_in Fence.wide (n - 1) trivial rfl (w.heap.size + 1) blk off b clock W1 hm1 hb1).mono ?_
    rintro e W2 ⟨⟨v, rfl⟩, hW2⟩
    have hL2 : W2.heap[w.heap.size + 1]? = some (.loop (rec .ready none)) := by rw [hW2]; exact at_old hL1
    have hK2 : W2.heap[w.heap.size]? = some (.deferred (some [])) := by rw [hW2]; exact at_old hK1
    have hb2 : Below w.heap.size w W2 := by rw [hW2]; exact hbW.alloc hbW.size _
    have hend := run_endLoop (P := Tryz.prog) hL2 (by rw [hrec]; simp)
    obtain ⟨W3, hW3⟩ : ∃ W3, W2.putObj (w.heap.size + 1) (.loop { rec .ready none with state := .exhausted }) = W3 := ⟨_, rfl⟩
    rw [hW3] at hend
    refine ⟨none, W3, ?_, hdone w.heap.size W3 ?_ (Nat.le_refl _) ?_⟩
    · rw [hrec] at hend; exact hend
    · rw [← hW3]; exact hb2.grown (grownBy_putObj' W2 (w.heap.size + 1) _) hb2.size (fun k e => by cases e; omega)
    · rw [← hW3]; exact (World.putObj_heap_other (by omega)).trans hK2

set_option maxRecDepth 100000 in
set_option maxHeartbeats 2000000 in
theorem append0_in (w : World) {blk off b clock : Nat} (hm : w.cell? ⟨blk, off, none⟩ = some (.map (some b))) (hb : w.heap[b]? = some (.map #[] clock)) :
    CallsIn Fence.wide 5 Tryz.prog 215 #[.slice none 0 0, .func (.func 177) #[] #[.pointer (some ⟨blk, off, none⟩)]] w fun e w' => e = .returned (.slice none 0 0) ∧ Below w.heap.size w w' := by
  refine callsIn_of_wp_marks Tryz.func215 rfl trivial ?_ rfl
  simp only [Tryz.ntmps215, List.size_toArray, List.length_cons, List.length_nil, Nat.reduceAdd, Nat.reduceSub, Array.replicate_succ, Array.replicate_zero, List.push_toArray, List.append_toArray, List.nil_append, List.cons_append]
  gi_wp2
  obtain ⟨W0, hW0⟩ : ∃ W0, w.alloc (.cells #[.slice none 0 0] 173) = W0 := ⟨_, rfl⟩
  rw [hW0]
  have hs0 : W0.heap.size = w.heap.size + 1 := by rw [← hW0]; simp
  have hb0 : Below w.heap.size w W0 := by rw [← hW0]; exact (Below.refl _ w).alloc (Nat.le_refl _) _
  have hc2 : W0.heap[w.heap.size]? = some (.cells #[.slice none 0 0] 173 (0, 0)) := by rw [← hW0]; exact at_new _ _ rfl
  have hlt : blk < w.heap.size := by
    unfold World.cell? at hm
    cases h : w.heap[blk]? with
    | none => rw [h] at hm; cases hm
    | some o => exact (Array.getElem?_eq_some_iff.1 h).1
  refine rangeKeys0 (by omega) rfl ((hb0.cell (p := ⟨blk, off, none⟩) hlt).trans hm) ((hb0.block b (Array.getElem?_eq_some_iff.1 hb).1).trans hb) ?_
  intro D W hbW hD hKW
  have d2 := (hbW.block w.heap.size (by omega)).trans hc2
  obtain ⟨e2, f2⟩ := cell_box d2
  have hb4 : Below w.heap.size w W := hb0.trans (hbW.mono (by omega))
  clear hW0
  gi_wp2
  refine ⟨by simp, .inl ⟨_, _, rfl, run_takeDeferred hKW, ?_⟩⟩
  exact ⟨_, results_tmp rfl _ _ _, rfl, hb4.grown (grownBy_putObj' _ _ _) hb4.size (fun k e => by cases e; omega)⟩

/-- What it comes to, as a summary. -/
def append0S : Nat → List Value → St → Option (Value × St) := fun _ args S =>
  match args with
  | [.slice none 0 0, .func (.func 177) _ caps] => match caps.toList with
    | [.pointer (some ⟨p, 0, none⟩)] => match S.h.get p with
      | some (.row _ _ (.map (some b) :: _)) => match S.h.get b with
        | some (.map [] _) => some (.slice none 0 0, S)
        | _ => none
      | _ => none
    | _ => none
  | _ => none

theorem append0_ok {summ : Summ} (h : SummOK Tryz.prog summ) : SummOK Tryz.prog (addS 215 append0S summ) := by
  refine addS_ok h ?_
  intro g' s hs ro args S v S' hrun hwf ρ w cargs hw hargs hfr hro
  cases hb : Nat.beq g' 215 with
  | false => simp only [hb] at hs; cases hs
  | true =>
    simp only [hb, cond_true, Option.some.injEq] at hs
    subst hs
    obtain rfl := Nat.eq_of_beq_eq_true hb
    unfold append0S at hrun
    split at hrun
    · rename_i fst caps
      split at hrun
      · rename_i p hcaps
        split at hrun
        · rename_i fl el b cs hp
          split at hrun
          · rename_i clock hbm
            simp only [Option.some.injEq, Prod.mk.injEq] at hrun
            obtain ⟨rfl, rfl⟩ := hrun
            have a0 := hargs.getD 0
            have a1 := hargs.getD 1
            have al := hargs.1
            match hc : cargs.toList with
            | [] => rw [hc] at al; simp at al
            | [_] => rw [hc] at al; simp at al
            | _ :: _ :: _ :: _ => rw [hc] at al; simp at al
            | [x, y] =>
              rw [hc] at a0 a1
              simp only [List.getD_cons_zero, List.getD_cons_succ] at a0 a1
              cases a0
              cases a1 with
              | func f xs ys hsz hel =>
                have hys : caps = #[.pointer (some ⟨p, 0, none⟩)] := by apply Array.ext'; simpa using hcaps
                subst hys
                have h1 : xs.size = 1 := by simpa using hsz
                have h2 := hel 0 (by omega)
                obtain ⟨x0, hx0⟩ : ∃ x0, xs = #[x0] := ⟨xs[0], by apply Array.ext (by simpa using h1); intro i hi hj; have : i = 0 := by simp at hj; omega
                                                                  subst this; rfl⟩
                subst hx0
                simp at h2
                cases h2 with
                | ptr off hl =>
                  rename_i l
                  obtain ⟨l', k1, cc, e, fr, k2, k3, _⟩ := hw.blk p _ hp
                  rw [hl] at k1
                  obtain rfl : l = l' := by simpa using k1
                  obtain ⟨cv, k4, k5⟩ := k3 0 _ rfl
                  cases k5 with
                  | map hlb =>
                    rename_i lb
                    obtain ⟨l2, q1, es', q2, q3, _⟩ := hw.blk b _ hbm
                    rw [hlb] at q1
                    obtain rfl : lb = l2 := by simpa using q1
                    have hes : es' = #[] := by apply Array.ext'; exact List.eq_nil_of_length_eq_zero (by simpa using q3)
                    subst hes
                    have hca : cargs = #[.slice none 0 0, .func (.func 177) #[] #[.pointer (some ⟨l.blk, 0 + l.dis, none⟩)]] := by apply Array.ext'; simpa using hc
                    rw [hca]
                    refine (callsIn_wide.1 (append0_in w (blk := l.blk) (off := 0 + l.dis) (b := lb.blk) (clock := clock) ?_ q2)).mono ?_
                    · simp only [World.cell?, k2]; simpa using k4
                    · rintro e w' ⟨rfl, hb⟩
                      exact ⟨_, ρ, rfl, post_below hw hb, cleanB_VR ρ 50 _ rfl⟩
          · cases hrun
        · cases hrun
      · cases hrun
    · cases hrun

end Go.Proofs.YtccpckiiademmaaGreatDoor

/-
  ABSTRACT HEAPS, part 15: a region that draws its order, whatever order is drawn: the theorem.
-/
import Derived.Test.YtccpckiiademmaaGreatDoorAb14
set_option linter.unusedSimpArgs false
namespace Go.Ab

/-- No block stands behind the names that are taken. -/
def WF (S : St) : Prop := ∀ n b, S.h.get n = some b → n < S.next

/-- What is asked of calls, of heaps that are in order. -/
def CallOK' (P : Program) (call : ACall) : Prop :=
  ∀ (ro : Nat) (g : FuncId) (args : List Value) (S : St) (v : Value) (S' : St), call ro g args S = some (v, S') → WF S →
    ∀ (ρ : Rn) (w : World) (cargs : Array Value), WR P ρ w S.h.get → VRl ρ cargs.toList args → FreeOn ρ S.next S'.next → ro ≤ S.next →
      Calls P g cargs w fun e w' => ∃ cv ρ', e = .returned cv ∧ Post P ro ρ S.h.get S.next w ρ' S'.h.get S'.next w' ∧ VR ρ' cv v

theorem Post.wf {P : Program} {ro : Nat} {ρ ρ' : Rn} {S S' : St} {w w' : World} (h : Post P ro ρ S.h.get S.next w ρ' S'.h.get S'.next w') (hw : WF S) : WF S' := fun n b hb => by
  rcases Nat.lt_or_ge n S'.next with h1 | h1
  · exact h1
  · obtain ⟨b', h2⟩ := h.live n b (by omega) hb
    have := hw n b' h2
    have := h.le
    omega

theorem Post.roMono {P : Program} {ro ro' : Nat} {ρ ρ' : Rn} {H H' : Hp} {c c' : Nat} {w w' : World} (h : Post P ro' ρ H c w ρ' H' c' w') (hro : ro ≤ ro') : Post P ro ρ H c w ρ' H' c' w' :=
  ⟨h.le, h.dom, h.wr, h.os, h.tape, h.output, h.size, fun B hB hB' => h.frame B hB (fun n b l h1 => hB' n b l (by omega)), fun n b l h1 h2 hb hl => (h.fresh n b l h1 h2 hb hl).imp id (fun ⟨m, bm, lm, h3, h4⟩ => ⟨m, bm, lm, by omega, h4⟩), h.live, fun n hn => h.keep n (by omega)⟩

theorem TR.congr {ρ : Rn} {tmps : Array Value} {f g : Fr} (h : TR ρ tmps f) (hn : f.n = g.n) (hg : ∀ t, f.get t = g.get t) : TR ρ tmps g := ⟨h.1.trans hn, fun i => by rw [← hg]; exact h.2 i⟩

theorem Fr.put_get (f : Fr) (dst : Option Tmp) (v : Value) (t : Nat) : (f.put dst v).get t = if (match dst with | some d => decide (d = t) && decide (d < f.n) | none => false) = true then v else f.get t := by
  cases dst with
  | none => simp [Fr.put]
  | some d =>
    simp only [Fr.put, blt_eq]
    by_cases hd : d < f.n
    · simp only [hd, decide_true, cond_true, Fr.get, cond_beq]
      by_cases e : t = d
      · subst e; simp
      · rw [if_neg e]
        have : decide (d = t) = false := decide_eq_false (fun h => e h.symm)
        simp [this]
    · simp [hd]
theorem Fr.put_n (f : Fr) (dst : Option Tmp) (v : Value) : (f.put dst v).n = f.n := by
  cases dst with
  | none => rfl
  | some d => simp only [Fr.put]; cases Nat.blt d f.n <;> rfl

theorem astep_sound' {P : Program} {okS : Kn} {call : ACall} (hP : ProgOK P okS) (hC : CallOK' P call) {ro : Nat} {ρ : Rn} {S S' : St} {a : Act} {w : World} {f : Fr} {o : Oper} {v : Value} (hw : WR P ρ w S.h.get) (ht : TR ρ a.tmps f) (hro : ro ≤ S.next) (hwf : WF S)
    (hf : FreeOn ρ S.next S'.next) (h : astep P okS call ro f S o = some (v, S')) {next : Act → World → Prop} {Q : Exit → Act → World → Prop}
    (hn : ∀ cv w' ρ', Post P ro ρ S.h.get S.next w ρ' S'.h.get S'.next w' → VR ρ' cv v → next (a.put o.dst cv) w') : o.wp P a w next Q := by
  unfold astep at h
  cases hr : aop P okS ro f S o with
  | none => simp [hr] at h
  | some r =>
    simp only [hr] at h
    cases r with
    | val u S1 =>
      simp only [Option.some.injEq, Prod.mk.injEq] at h
      obtain ⟨rfl, rfl⟩ := h
      obtain ⟨nx, cv, w', ρ', h1, h2, h3, h4⟩ := aop_sound (a := a) hP hw ht hro hr hf
      unfold Oper.wp
      rw [h1]
      rcases h2 with rfl | ⟨rfl, rfl⟩
      · exact hn _ _ _ h3 h4
      · exact hn _ _ _ h3 h4
    | call g args =>
      simp only at h
      obtain ⟨cargs, h1, h2⟩ := aop_sound (a := a) hP hw ht hro hr trivial
      unfold Oper.wp
      rw [h1]
      refine (hC ro g args S v S' h hwf ρ w cargs hw h2 hf hro).mono ?_
      rintro e w' ⟨cv, ρ', rfl, h3, h4⟩
      exact hn _ _ _ h3 h4

section
variable {P : Program} {okS : Kn} {call : ACall} {ro : Nat} {ops : Array Oper} {R : Nat → Rec} {f : Fr} {S : St}

/-- All records, from the first on. -/
structure Walked (P : Program) (okS : Kn) (call : ACall) (ro : Nat) (ops : Array Oper) (R : Nat → Rec) (f : Fr) (S : St) : Prop where
  at_ : ∀ i, i < ops.size → RecAt P okS call ro ops (masksGo ops.toList []) R i
  first : 0 < ops.size → (R 0).f = f ∧ (R 0).S = S
  next : ∀ i, i + 1 < ops.size → (R (i + 1)).f = (R i).f.put (R i).o.dst (R i).v ∧ (R (i + 1)).S = (R i).S'

def chH (R : Nat → Rec) (i n : Nat) : Bool := (R i).ch n
def outH (R : Nat → Rec) (i n : Nat) : Option Blk := (R i).S1.h.get n
def chF (R : Nat → Rec) (k i t : Nat) : Bool := match (R i).o.dst with | some d => decide (d = t) && decide (d < k) | none => false
def outF (R : Nat → Rec) (i _t : Nat) : Value := (R i).v

theorem Walked.fn (h : Walked P okS call ro ops R f S) : ∀ i, i < ops.size → (R i).f.n = f.n
  | 0, hi => by rw [(h.first hi).1]
  | i + 1, hi => by rw [(h.next i hi).1, Fr.put_n]; exact h.fn i (by omega)

theorem Walked.frame (h : Walked P okS call ro ops R f S) (t : Nat) : ∀ i, i < ops.size → (R i).f.get t = pfold (chF R f.n) (outF R) (fun _ => true) i f.get t
  | 0, hi => by rw [(h.first hi).1]; rfl
  | i + 1, hi => by
    rw [(h.next i hi).1, Fr.put_get, h.frame t i (by omega), h.fn i (by omega)]
    simp only [pfold, Bool.true_and, chF, outF]

theorem Walked.heap (h : Walked P okS call ro ops R f S) (n : Nat) : ∀ i, i < ops.size → (R i).S.h.get n = pfold (chH R) (outH R) (fun _ => true) i S.h.get n
  | 0, hi => by rw [(h.first hi).2]; rfl
  | i + 1, hi => by
    rw [(h.next i hi).2, (h.at_ i (by omega)).good.heap, h.heap n i (by omega)]
    simp only [pfold, Bool.true_and, chH, outH]

theorem Walked.mono (h : Walked P okS call ro ops R f S) : ∀ (d i : Nat), i + d < ops.size → (R i).S.next ≤ (R (i + d)).S.next
  | 0, i, _ => Nat.le_refl _
  | d + 1, i, hi => by
    have h1 := h.mono d i (by omega)
    have h2 := (h.at_ (i + d) (by omega)).good.le
    have h3 := (h.next (i + d) (by omega)).2
    rw [show i + (d + 1) = i + d + 1 by omega, h3]
    omega

theorem Walked.lt (h : Walked P okS call ro ops R f S) {i j : Nat} (hij : i < j) (hj : j < ops.size) : (R i).S'.next ≤ (R j).S.next := by
  have h1 := (h.next i (by omega)).2
  have h2 := h.mono (j - (i + 1)) (i + 1) (by omega)
  rw [show i + 1 + (j - (i + 1)) = j by omega, h1] at h2
  exact h2

theorem Walked.base (h : Walked P okS call ro ops R f S) {i : Nat} (hi : i < ops.size) : S.next ≤ (R i).S.next := by
  have h1 := h.mono i 0 (by omega)
  rw [Nat.zero_add, (h.first (by omega)).2] at h1
  exact h1

theorem Walked.wf (h : Walked P okS call ro ops R f S) (hwf : WF S) {i : Nat} (hi : i < ops.size) {n : Nat} {b : Blk} (hb : (R i).S.h.get n = some b) : n < (R i).S.next := by
  rw [h.heap n i hi] at hb
  have key : ∀ k, k ≤ i → pfold (chH R) (outH R) (fun _ => true) k S.h.get n = some b → n < (R i).S.next := by
    intro k
    induction k with
    | zero => intro _ hk; have := hwf n b hk; have := h.base hi; omega
    | succ k ih =>
      intro hki hk
      simp only [pfold, Bool.true_and] at hk
      split at hk
      · rename_i hc
        obtain ⟨_, h1⟩ := Rec.ch_eq.1 hc
        have hg := (h.at_ k (by omega)).good
        have h2 := h.lt (i := k) (j := i) (by omega) hi
        rcases h1 with h1 | h1
        · have := hg.fplt n (hg.wrfp n h1); have := hg.le; omega
        · omega
      · exact ih (by omega) hk
  exact key i (Nat.le_refl _) hb

/-- What is listed is closed under the edges. -/
def Closed (R : Nat → Rec) (n : Nat) (L : Nat → Bool) : Prop := ∀ j, j < n → L j = true → ∀ e, e ∈ (R j).o.after.toList → Region.binds .any e = true → L e.on = true

theorem Closed.mask (h : Walked P okS call ro ops R f S) {L : Nat → Bool} (hc : Closed R ops.size L) : ∀ (k : Nat), k < ops.size → L k = true → ∀ j, (((masksGo ops.toList [])[k]?).getD 0).testBit j = true → L j = true := by
  intro k
  induction k using Nat.strongRecOn with
  | _ k ih =>
    intro hk hL j hm
    obtain ⟨e, h1, h2, h3⟩ := mask_bit (h.at_ k hk).op hm
    have h4 := hc k hk hL e h1 h2
    rcases h3 with rfl | ⟨h5, h6⟩
    · exact h4
    · exact ih e.on h5 (by omega) h4 j h6

/-- At one that is ready, those before it are listed. -/
theorem Closed.ready (h : Walked P okS call ro ops R f S) {L : Nat → Bool} (hc : Closed R ops.size L) {i : Nat} (hi : i < ops.size) (hr : ∀ e, e ∈ (R i).o.after.toList → Region.binds .any e = true → L e.on = true) {j : Nat}
    (hm : (((masksGo ops.toList [])[i]?).getD 0).testBit j = true) : L j = true := by
  obtain ⟨e, h1, h2, h3⟩ := mask_bit (h.at_ i hi).op hm
  have h4 := hr e h1 h2
  rcases h3 with rfl | ⟨h5, h6⟩
  · exact h4
  · exact hc.mask h e.on (by omega) h4 j h6

/-- The frame, behind those of the list. -/
def frL (R : Nat → Rec) (L : Nat → Bool) (f : Fr) : Nat → Fr
  | 0 => f
  | k + 1 => if L k = true then (frL R L f k).put (R k).o.dst (R k).v else frL R L f k

theorem frL_n (L : Nat → Bool) : ∀ k, (frL R L f k).n = f.n
  | 0 => rfl
  | k + 1 => by
    simp only [frL]
    split
    · rw [Fr.put_n]; exact frL_n L k
    · exact frL_n L k

theorem frL_get (L : Nat → Bool) (t : Nat) : ∀ k, (frL R L f k).get t = pfold (chF R f.n) (outF R) L k f.get t
  | 0 => rfl
  | k + 1 => by
    simp only [frL, pfold]
    by_cases h : L k = true
    · rw [if_pos h, Fr.put_get, frL_get L t k, frL_n]
      simp only [h, Bool.true_and]
      rfl
    · rw [if_neg h, frL_get L t k]
      simp [h]

/-- Two that no edge orders. -/
theorem unordered (h : Walked P okS call ro ops R f S) {L : Nat → Bool} (hc : Closed R ops.size L) {i : Nat} (hi : i < ops.size) (hL : L i = false) (hr : ∀ e, e ∈ (R i).o.after.toList → Region.binds .any e = true → L e.on = true)
    {j : Nat} (hj : j < ops.size) (hd : L j ≠ decide (j < i)) : (j < i ∧ L j = false ∧ (((masksGo ops.toList [])[i]?).getD 0).testBit j = false) ∨ (i < j ∧ L j = true ∧ (((masksGo ops.toList [])[j]?).getD 0).testBit i = false) := by
  by_cases hji : j < i
  · rw [decide_eq_true hji] at hd
    have hLj : L j = false := by simpa using hd
    refine .inl ⟨hji, hLj, ?_⟩
    cases hm : (((masksGo ops.toList [])[i]?).getD 0).testBit j with
    | false => rfl
    | true => have := hc.ready h hi hr hm; rw [hLj] at this; cases this
  · rw [decide_eq_false hji] at hd
    have hLj : L j = true := by simpa using hd
    have hne : j ≠ i := fun e => by rw [e, hL] at hLj; cases hLj
    refine .inr ⟨by omega, hLj, ?_⟩
    cases hm : (((masksGo ops.toList [])[j]?).getD 0).testBit i with
    | false => rfl
    | true => have := hc.mask h j hj hLj i hm; rw [hL] at this; cases this

theorem seesF (h : Walked P okS call ro ops R f S) {L : Nat → Bool} (hc : Closed R ops.size L) {i : Nat} (hi : i < ops.size) (hL : L i = false) (hr : ∀ e, e ∈ (R i).o.after.toList → Region.binds .any e = true → L e.on = true)
    (t : Nat) (ht : t ∈ (R i).o.looksAt ops) : (frL R L f ops.size).get t = (R i).f.get t := by
  rw [frL_get, h.frame t i hi, ← pfold_first (n := ops.size) (by omega : i ≤ ops.size)]
  refine pfold_same (fun j hj hne => ?_)
  rcases unordered h hc hi hL hr hj hne with ⟨h1, _, h2⟩ | ⟨h1, _, h2⟩
  · have := (Oper.apart_spec ((h.at_ i hi).apart j h1 h2)).1
    unfold chF
    cases hd : (R j).o.dst with
    | none => rfl
    | some d =>
      have h3 := this d hd
      simp only
      have h4 : ¬ d = t := fun e => h3 (by rw [e]; exact ht)
      rw [decide_eq_false h4]
      rfl
  · have := (Oper.apart_spec ((h.at_ j hj).apart i h1 h2)).2.2
    unfold chF
    cases hd : (R j).o.dst with
    | none => rfl
    | some d =>
      have h3 := this d hd
      simp only
      have h4 : ¬ d = t := fun e => h3 (by rw [e]; exact ht)
      rw [decide_eq_false h4]
      rfl

/-- A name that an unordered one turns isn't one that is seen. -/
theorem seesH (h : Walked P okS call ro ops R f S) (hwf : WF S) {L : Nat → Bool} (hc : Closed R ops.size L) {i : Nat} (hi : i < ops.size) (hL : L i = false) (hr : ∀ e, e ∈ (R i).o.after.toList → Region.binds .any e = true → L e.on = true) (hw : (R i).want = true)
    (n : Nat) (hn : (n ∈ (R i).oi.fp ∧ (R i).oi.isC = false) ∨ (∃ b, (R i).T.get n = some b)) : pfold (chH R) (outH R) L ops.size S.h.get n = (R i).S.h.get n := by
  have hg := (h.at_ i hi).good
  have hlt : n < (R i).S.next := by
    rcases hn with ⟨h1, _⟩ | ⟨b, hb⟩
    · exact hg.fplt n h1
    · cases hC : (R i).oi.isC with
      | false =>
        rw [hg.sees hw hC] at hb
        split at hb
        · exact h.wf hwf hi hb
        · cases hb
      | true =>
        rw [(hg.seesC hw hC).2] at hb
        split at hb
        · cases hb
        · exact h.wf hwf hi hb
  have hfp : (R i).oi.isC = false → n ∈ (R i).oi.fp := fun hC => by
    rcases hn with ⟨h1, _⟩ | ⟨b, hb⟩
    · exact h1
    · rw [hg.sees hw hC] at hb
      split at hb
      · assumption
      · cases hb
  rw [h.heap n i hi, ← pfold_first (n := ops.size) (by omega : i ≤ ops.size)]
  refine pfold_same (fun j hj hne => ?_)
  have hgj := (h.at_ j hj).good
  cases hch : chH R j n with
  | false => rfl
  | true =>
    exfalso
    obtain ⟨hwj, hcase⟩ := Rec.ch_eq.1 hch
    rcases unordered h hc hi hL hr hj hne with ⟨h1, _, h2⟩ | ⟨h1, _, h2⟩
    · have hcm := (h.at_ i hi).compat j h1 h2 hw
      unfold compat at hcm
      cases hCj : (R j).oi.isC with
      | true =>
        cases hC : (R i).oi.isC with
        | true => rw [hCj, hC] at hcm; cases hcm
        | false =>
          rw [hCj, hC] at hcm
          simp only [Bool.and_eq_true] at hcm
          have h3 := List.all_eq_true.1 hcm.2 n (hfp hC)
          rcases hcase with h4 | h4
          · rw [(hgj.seesC hwj hCj).1] at h4; simp at h4
          · rw [(inR_eq (lo := (R j).oi.lo) (hi := (R j).oi.hi)).2 (by rw [hgj.lohi.1, hgj.lohi.2]; exact h4)] at h3
            cases h3
      | false =>
        cases hC : (R i).oi.isC with
        | true =>
          rw [hCj, hC] at hcm
          simp only [List.isEmpty_iff] at hcm
          rcases hcase with h4 | h4
          · rw [hcm] at h4; simp at h4
          · have hmem : R j ∈ unord (((masksGo ops.toList [])[i]?).getD 0) 0 ((List.range i).map R) := mem_unord (i := j) (by simp [h1]) (by simpa using h2)
            have := mem_erasedOf hmem (n := n) (by rw [hgj.lohi.1]; exact h4.1) (by rw [hgj.lohi.2]; exact h4.2)
            rcases hn with ⟨_, h5⟩ | ⟨b, hb⟩
            · rw [hC] at h5; cases h5
            · rw [(hg.seesC hw hC).2, if_pos this] at hb; cases hb
        | false =>
          rw [hCj, hC] at hcm
          simp only [Bool.and_eq_true] at hcm
          have h3 := List.all_eq_true.1 hcm.2.2 n (hfp hC)
          rcases hcase with h4 | h4
          · exact disj_spec hcm.1 h4 (hfp hC)
          · rw [(inR_eq (lo := (R j).oi.lo) (hi := (R j).oi.hi)).2 (by rw [hgj.lohi.1, hgj.lohi.2]; exact h4)] at h3
            cases h3
    · have hcm := (h.at_ j hj).compat i h1 h2 hwj
      have hord := h.lt h1 hj
      have hle := hg.le
      rcases hcase with h4 | h4
      · unfold compat at hcm
        cases hC : (R i).oi.isC with
        | true =>
          cases hCj : (R j).oi.isC with
          | true => rw [hCj, hC] at hcm; cases hcm
          | false =>
            rw [hCj, hC] at hcm
            simp only [Bool.and_eq_true, List.isEmpty_iff] at hcm
            rw [hcm.1] at h4; simp at h4
        | false =>
          cases hCj : (R j).oi.isC with
          | true => rw [(hgj.seesC hwj hCj).1] at h4; simp at h4
          | false =>
            rw [hCj, hC] at hcm
            simp only [Bool.and_eq_true] at hcm
            exact disj_spec hcm.2.1 h4 (hfp hC)
      · omega

end
end Go.Ab

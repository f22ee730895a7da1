/-
  ABSTRACT HEAPS, part 12: the frame rule; patches in whatever order; operations one behind the other.
-/
import Derived.Test.YtccpckiiademmaaGreatDoorAb11
set_option linter.unusedSimpArgs false
namespace Go.Ab

/-! ### the frame rule -/

/-- What becomes of a heap of which a part is turned. -/
def merge (H V V' : Hp) (c c' : Nat) : Hp := fun n => if (V n).isSome ∨ (c ≤ n ∧ n < c') then V' n else H n

theorem Post.frameRule {P : Program} {ro : Nat} {ρ ρ' : Rn} {H V V' : Hp} {c c' : Nat} {w w' : World} (hw : WR P ρ w H) (hV : ∀ n b, V n = some b → H n = some b) (hf : FreeOn ρ c c')
    (h : Post P ro ρ V c w ρ' V' c' w') : Post P ro ρ H c w ρ' (merge H V V' c c') c' w' := by
  have hx := h.ext hf
  have hnew : ∀ n, c ≤ n → n < c' → H n = none := fun n h1 h2 => by
    cases hn : H n with
    | none => rfl
    | some b => obtain ⟨l, h3, _⟩ := hw.blk n b hn; rw [hf n h1 h2] at h3; cases h3
  -- a name beside: its block is as it was
  have beside : ∀ n b l, H n = some b → V n = none → ρ n = some l → w'.heap[l.blk]? = w.heap[l.blk]? := fun n b l hn hv hl =>
    h.frame l.blk (hw.lt hn hl) (fun m bm lm _ hm hlm e => by
      have := hw.inj m n bm b lm l (hV m bm hm) hn hlm hl e
      subst this
      rw [hv] at hm; cases hm)
  have split : ∀ n b, merge H V V' c c' n = some b → (V' n = some b ∧ ((V n).isSome ∨ (c ≤ n ∧ n < c'))) ∨ (H n = some b ∧ V n = none ∧ ¬(c ≤ n ∧ n < c')) := fun n b hn => by
    unfold merge at hn
    split at hn
    · rename_i hc; exact .inl ⟨hn, hc⟩
    · rename_i hc
      refine .inr ⟨hn, ?_, fun e => hc (.inr e)⟩
      cases hv : V n with
      | none => rfl
      | some x => exact absurd (.inl (by simp [hv])) hc
  -- a name that is turned, and one beside, lead to two blocks
  have cross : ∀ m n bm bn lm ln, V' m = some bm → ((V m).isSome ∨ (c ≤ m ∧ m < c')) → H n = some bn → V n = none → ¬(c ≤ n ∧ n < c') → ρ' m = some lm → ρ' n = some ln → lm.blk ≠ ln.blk := by
    intro m n bm bn lm ln hm hc hn hvn hcn hlm hln e
    rw [h.dom n hcn] at hln
    have hlt := hw.lt hn hln
    by_cases hmr : c ≤ m ∧ m < c'
    · rcases h.fresh m bm lm hmr.1 hmr.2 hm hlm with h1 | ⟨q, bq, lq, _, h2, h3, h4⟩
      · omega
      · have := hw.inj q n bq bn lq ln (hV q bq h2) hn h3 hln (h4.trans e)
        subst this; rw [hvn] at h2; cases h2
    · rw [h.dom m hmr] at hlm
      obtain ⟨bq, h2⟩ := h.live m bm hmr hm
      have := hw.inj m n bq bn lm ln (hV m bq h2) hn hlm hln e
      subst this; rw [hvn] at h2; cases h2
  refine ⟨h.le, h.dom, ⟨fun m n bm bn lm ln h1 h2 h3 h4 h5 => ?_, fun n b hn => ?_, h.wr.glob⟩, h.os, h.tape, h.output, h.size, fun B hB hB' => h.frame B hB (fun n b l h1 h2 h3 => hB' n b l h1 (hV n b h2) h3), fun n b l h1 h2 hb hl => ?_, fun n b hn hb => ?_, fun n hn => ?_⟩
  · rcases split m bm h1 with ⟨h6, h7⟩ | ⟨h6, h7, h8⟩ <;> rcases split n bn h2 with ⟨k6, k7⟩ | ⟨k6, k7, k8⟩
    · exact h.wr.inj m n bm bn lm ln h6 k6 h3 h4 h5
    · exact absurd h5 (cross m n bm bn lm ln h6 h7 k6 k7 k8 h3 h4)
    · exact absurd h5.symm (cross n m bn bm ln lm k6 k7 h6 h7 h8 h4 h3)
    · rw [h.dom m h8] at h3
      rw [h.dom n k8] at h4
      exact hw.inj m n bm bn lm ln h6 k6 h3 h4 h5
  · rcases split n b hn with ⟨h6, _⟩ | ⟨h6, h7, h8⟩
    · exact h.wr.blk n b h6
    · obtain ⟨l, h9, h10⟩ := hw.blk n b h6
      refine ⟨l, by rw [h.dom n h8]; exact h9, ?_⟩
      rw [beside n b l h6 h7 h9]
      exact h10.mono hx
  · rcases split n b hb with ⟨h6, _⟩ | ⟨_, _, h8⟩
    · rcases h.fresh n b l h1 h2 h6 hl with h3 | ⟨m, bm, lm, h3, h4, h5⟩
      · exact .inl h3
      · exact .inr ⟨m, bm, lm, h3, hV m bm h4, h5⟩
    · exact absurd ⟨h1, h2⟩ h8
  · rcases split n b hb with ⟨h6, _⟩ | ⟨h6, _⟩
    · obtain ⟨b', h7⟩ := h.live n b hn h6
      exact ⟨b', hV n b' h7⟩
    · exact ⟨b, h6⟩
  · unfold merge
    split
    · rename_i hc
      rw [h.keep n hn]
      cases hv : V n with
      | some x => exact (hV n x hv).symm
      | none =>
        rw [hv] at hc
        simp at hc
        rw [hnew n hc.1 hc.2]
    · rfl

/-- In a wider range. -/
theorem Post.widen {P : Program} {ro : Nat} {ρ ρ' : Rn} {H H' : Hp} {c c' d d' : Nat} {w w' : World} (h : Post P ro ρ H c w ρ' H' c' w') (hro : ro ≤ d) (h1 : d ≤ c) (h2 : c' ≤ d') : Post P ro ρ H d w ρ' H' d' w' := by
  refine ⟨by have := h.le; omega, fun n hn => h.dom n (by omega), h.wr, h.os, h.tape, h.output, h.size, h.frame, fun n b l h3 h4 hb hl => ?_, fun n b hn hb => h.live n b (by omega) hb, h.keep⟩
  by_cases hn : c ≤ n ∧ n < c'
  · exact h.fresh n b l hn.1 hn.2 hb hl
  · obtain ⟨b', h5⟩ := h.live n b hn hb
    exact .inr ⟨n, b', l, by omega, h5, by rw [← h.dom n hn]; exact hl, rfl⟩

/-- Two steps in one range. -/
theorem Post.both {P : Program} {ro : Nat} {ρ ρ1 ρ2 : Rn} {H H1 H2 : Hp} {c c' : Nat} {w w1 w2 : World}
    (h : Post P ro ρ H c w ρ1 H1 c' w1) (k : Post P ro ρ1 H1 c w1 ρ2 H2 c' w2) : Post P ro ρ H c w ρ2 H2 c' w2 := by
  have key : ∀ n b l, ro ≤ n → H1 n = some b → ρ1 n = some l → w.heap.size ≤ l.blk ∨ ∃ m bm lm, ro ≤ m ∧ H m = some bm ∧ ρ m = some lm ∧ lm.blk = l.blk := by
    intro n b l hn hb hl
    by_cases hc : c ≤ n ∧ n < c'
    · exact h.fresh n b l hc.1 hc.2 hb hl
    · obtain ⟨b', hb'⟩ := h.live n b hc hb
      rw [h.dom n hc] at hl
      exact .inr ⟨n, b', l, hn, hb', hl, rfl⟩
  refine ⟨h.le, fun n hn => (k.dom n hn).trans (h.dom n hn), k.wr, k.os.trans h.os, k.tape.trans h.tape, k.output.trans h.output, Nat.le_trans h.size k.size, fun B hB hB' => ?_, fun n b l h1 h2 hb hl => ?_, fun n b hn hb => ?_, fun n hn => (k.keep n hn).trans (h.keep n hn)⟩
  · rw [k.frame B (by have := h.size; omega) ?_, h.frame B hB hB']
    intro n b l hn hb hl e
    rcases key n b l hn hb hl with h1 | ⟨m, bm, lm, h1, h2, h3, h4⟩
    · omega
    · exact hB' m bm lm h1 h2 h3 (h4.trans e)
  · rcases k.fresh n b l h1 h2 hb hl with h3 | ⟨m, bm, lm, h3, h4, h5, h6⟩
    · exact .inl (by have := h.size; omega)
    · rcases key m bm lm h3 h4 h5 with h7 | ⟨m', bm', lm', h7, h8, h9, h10⟩
      · exact .inl (by omega)
      · exact .inr ⟨m', bm', lm', h7, h8, h9, h10.trans h6⟩
  · obtain ⟨b1, hb1⟩ := k.live n b hn hb
    exact h.live n b1 hn hb1

/-! ### patches in whatever order -/

/-- Those patches of the first n that are in L, in their order. -/
def pfold {X : Type} (ch : Nat → Nat → Bool) (out : Nat → Nat → X) (L : Nat → Bool) : Nat → (Nat → X) → (Nat → X)
  | 0, F => F
  | n + 1, F => fun k => if (L n && ch n k) = true then out n k else pfold ch out L n F k

theorem pfold_same {X : Type} {ch : Nat → Nat → Bool} {out : Nat → Nat → X} {L L' : Nat → Bool} {F : Nat → X} {k : Nat} : ∀ {n : Nat}, (∀ j, j < n → L j ≠ L' j → ch j k = false) → pfold ch out L n F k = pfold ch out L' n F k
  | 0, _ => rfl
  | n + 1, h => by
    have ih := pfold_same (ch := ch) (out := out) (L := L) (L' := L') (F := F) (k := k) (n := n) (fun j hj => h j (by omega))
    simp only [pfold, ih]
    by_cases e : L n = L' n
    · rw [e]
    · have := h n (by omega) e
      simp [this]

theorem pfold_first {X : Type} {ch : Nat → Nat → Bool} {out : Nat → Nat → X} {F : Nat → X} {i k : Nat} : ∀ {n : Nat}, i ≤ n → pfold ch out (fun j => decide (j < i)) n F k = pfold ch out (fun _ => true) i F k
  | 0, h => by
    obtain rfl : i = 0 := by omega
    rfl
  | n + 1, h => by
    by_cases e : i = n + 1
    · subst e
      exact pfold_same_all (n + 1) (Nat.le_refl _)
    · rw [pfold]
      rw [decide_eq_false (show ¬ n < i by omega)]
      simp only [Bool.false_and, Bool.false_eq_true, if_false]
      exact pfold_first (by omega)
where
  pfold_same_all {X : Type} {ch : Nat → Nat → Bool} {out : Nat → Nat → X} {F : Nat → X} {i k : Nat} : ∀ (n : Nat), n ≤ i → pfold ch out (fun j => decide (j < i)) n F k = pfold ch out (fun _ => true) n F k
    | 0, _ => rfl
    | n + 1, h => by
      simp only [pfold, decide_eq_true (show n < i by omega)]
      rw [pfold_same_all n (by omega)]

theorem pfold_put {X : Type} {ch : Nat → Nat → Bool} {out : Nat → Nat → X} {L : Nat → Bool} {F : Nat → X} {i k : Nat} : ∀ {n : Nat}, i < n → L i = false → (∀ j, i < j → j < n → L j = true → ch i k = true → ch j k = false) →
    pfold ch out (fun j => if j = i then true else L j) n F k = if ch i k = true then out i k else pfold ch out L n F k
  | 0, h, _, _ => by omega
  | n + 1, h, hL, hd => by
    by_cases e : i = n
    · subst e
      simp only [pfold, if_true, Bool.true_and, hL, Bool.false_and, Bool.false_eq_true, if_false]
      split
      · rfl
      · exact pfold_same (fun j hj hne => absurd (if_neg (show ¬ j = i by omega)) hne)
    · have ih := pfold_put (ch := ch) (out := out) (L := L) (F := F) (i := i) (k := k) (n := n) (by omega) hL (fun j h1 h2 => hd j h1 (by omega))
      simp only [pfold, if_neg (show ¬ n = i by omega), ih]
      by_cases hc : ch i k = true
      · simp only [hc, if_true]
        by_cases hLn : L n = true
        · have := hd n (by omega) (by omega) hLn hc
          simp [this]
        · simp [hLn]
      · simp [hc]

/-! ### operations, one behind the other -/

def ayielded (ops : Array Oper) (f : Fr) (j : Nat) : Option Bool :=
  match (ops[j]?).bind (·.dst) with
  | some t => match f.get t with
    | .bool b => some b
    | _ => none
  | none => none

def awanted (ops : Array Oper) (o : Oper) (f : Fr) : Bool :=
  match o.guard with
  | none => true
  | some (j, want) => match ayielded ops f j, want with
    | some true, true => true
    | some false, false => true
    | _, _ => false

theorem ayielded_eq {ρ : Rn} {ops : Array Oper} {a : Act} {f : Fr} (ht : TR ρ a.tmps f) (j : Nat) : yielded ops a.tmps j = ayielded ops f j := by
  unfold yielded ayielded
  cases hd : (ops[j]?).bind (·.dst) with
  | none => rfl
  | some t =>
    simp only [Option.bind_some]
    have h := ht.2 t
    by_cases hlt : t < a.tmps.size
    · have e1 : a.tmps[t]? = some (a.tmps.getD t undef) := by simp [Array.getD, hlt]
      rw [e1]
      generalize a.tmps.getD t undef = x at h
      generalize f.get t = y at h
      cases h <;> rfl
    · have e1 : a.tmps[t]? = none := Array.getElem?_eq_none (Nat.le_of_not_lt hlt)
      have e2 : a.tmps.getD t undef = undef := by simp [Array.getD, hlt]
      rw [e1]
      rw [e2] at h
      generalize f.get t = y at h
      unfold undef at h
      cases h; rfl

theorem awanted_eq {ρ : Rn} {ops : Array Oper} {o : Oper} {a : Act} {f : Fr} (ht : TR ρ a.tmps f) : Region.wanted o (yielded ops a.tmps) = awanted ops o f := by
  unfold Region.wanted awanted
  cases hg : o.guard with
  | none => rfl
  | some jw =>
    obtain ⟨j, want⟩ := jw
    simp only
    rw [ayielded_eq ht]
    cases ayielded ops f j with
    | none => rfl
    | some b => cases b <;> cases want <;> rfl

/-- A call: the function, its arguments. -/
abbrev ACall := Nat → FuncId → List Value → St → Option (Value × St)

/-- What is asked of calls. -/
def CallOK (P : Program) (call : ACall) : Prop :=
  ∀ (ro : Nat) (g : FuncId) (args : List Value) (S : St) (v : Value) (S' : St), call ro g args S = some (v, S') →
    ∀ (ρ : Rn) (w : World) (cargs : Array Value), WR P ρ w S.h.get → VRl ρ cargs.toList args → FreeOn ρ S.next S'.next → ro ≤ S.next →
      Calls P g cargs w fun e w' => ∃ cv ρ', e = .returned cv ∧ Post P ro ρ S.h.get S.next w ρ' S'.h.get S'.next w' ∧ VR ρ' cv v

/-- One operation, calls and all. -/
def astep (P : Program) (okS : Kn) (call : ACall) (ro : Nat) (f : Fr) (S : St) (o : Oper) : Option (Value × St) :=
  match aop P okS ro f S o with
  | some (.val v S') => some (v, S')
  | some (.call g args) => call ro g args S
  | none => none

theorem astep_sound {P : Program} {okS : Kn} {call : ACall} (hP : ProgOK P okS) (hC : CallOK P call) {ro : Nat} {ρ : Rn} {S S' : St} {a : Act} {w : World} {f : Fr} {o : Oper} {v : Value} (hw : WR P ρ w S.h.get) (ht : TR ρ a.tmps f) (hro : ro ≤ S.next)
    (hf : FreeOn ρ S.next S'.next) (h : astep P okS call ro f S o = some (v, S')) {next : Act → World → Prop} {Q : Exit → Act → World → Prop}
    (hn : ∀ cv w' ρ', Post P ro ρ S.h.get S.next w ρ' S'.h.get S'.next w' → VR ρ' cv v → next (a.put o.dst cv) w') : o.wp P a w next Q := by
  unfold astep at h
  cases hr : aop P okS ro f S o with
  | none => simp [hr] at h
  | some r =>
    simp only [hr] at h
    cases r with
    | val u S1 =>
      simp only [Option.some.injEq, Prod.mk.injEq] at h
      obtain ⟨rfl, rfl⟩ := h
      obtain ⟨nx, cv, w', ρ', h1, h2, h3, h4⟩ := aop_sound (a := a) hP hw ht hro hr hf
      unfold Oper.wp
      rw [h1]
      rcases h2 with rfl | ⟨rfl, rfl⟩
      · exact hn _ _ _ h3 h4
      · exact hn _ _ _ h3 h4
    | call g args =>
      simp only at h
      obtain ⟨cargs, h1, h2⟩ := aop_sound (a := a) hP hw ht hro hr trivial
      unfold Oper.wp
      rw [h1]
      refine (hC ro g args S v S' h ρ w cargs hw h2 hf hro).mono ?_
      rintro e w' ⟨cv, ρ', rfl, h3, h4⟩
      exact hn _ _ _ h3 h4

def aops (P : Program) (okS : Kn) (call : ACall) (ro : Nat) (ops : Array Oper) : List Oper → Fr → St → Option (Fr × St)
  | [], f, S => some (f, S)
  | o :: rest, f, S =>
    cond (awanted ops o f)
      (match astep P okS call ro f S o with
      | some (v, S') => cond (Nat.ble S.next S'.next) (aops P okS call ro ops rest (f.put o.dst v) S') none
      | none => none)
      (aops P okS call ro ops rest (f.put o.dst undef) S)

theorem aops_le {P : Program} {okS : Kn} {call : ACall} {ro : Nat} {ops : Array Oper} : ∀ {l : List Oper} {f f' : Fr} {S S' : St}, aops P okS call ro ops l f S = some (f', S') → S.next ≤ S'.next
  | [], f, f', S, S', h => by simp only [aops, Option.some.injEq, Prod.mk.injEq] at h; rw [h.2]; exact Nat.le_refl _
  | o :: rest, f, f', S, S', h => by
    simp only [aops] at h
    cases hw : awanted ops o f with
    | false => rw [hw] at h; exact aops_le h
    | true =>
      rw [hw] at h
      simp only [cond_true] at h
      split at h
      · rename_i v S1 hs
        rw [ble_eq] at h
        by_cases hl : S.next ≤ S1.next
        · simp only [hl, decide_true, cond_true] at h
          exact Nat.le_trans hl (aops_le h)
        · simp [hl] at h
      · cases h

theorem FreeOn.sub {ρ : Rn} {c c' d d' : Nat} (h : FreeOn ρ c c') (h1 : c ≤ d) (h2 : d' ≤ c') : FreeOn ρ d d' := fun n h3 h4 => h n (by omega) (by omega)
theorem FreeOn.later {P : Program} {ro : Nat} {ρ ρ' : Rn} {H H' : Hp} {c c' e : Nat} {w w' : World} (h : FreeOn ρ c e) (hp : Post P ro ρ H c w ρ' H' c' w') : FreeOn ρ' c' e := fun n h3 h4 => by
  have := hp.le
  rw [hp.dom n (by omega)]; exact h n (by omega) h4

theorem aops_sound {P : Program} {okS : Kn} {call : ACall} (hP : ProgOK P okS) (hC : CallOK P call) {ro : Nat} {ops : Array Oper} {Q : Exit → Act → World → Prop} : ∀ {l : List Oper} {is : List Nat} (_ : is.map (ops[·]?) = l.map some) {f f' : Fr} {S S' : St} {ρ : Rn} {a : Act} {w : World},
    aops P okS call ro ops l f S = some (f', S') → WR P ρ w S.h.get → TR ρ a.tmps f → ro ≤ S.next → FreeOn ρ S.next S'.next →
    (∀ a' w' ρ', Post P ro ρ S.h.get S.next w ρ' S'.h.get S'.next w' → TR ρ' a'.tmps f' → a'.defers = a.defers → Q .normal a' w') → wpOps P ops Q is a w
  | [], is, hi, f, f', S, S', ρ, a, w, h, hw, ht, hro, hf, hQ => by
    have : is = [] := by simpa using hi
    subst this
    simp only [aops, Option.some.injEq, Prod.mk.injEq] at h
    obtain ⟨rfl, rfl⟩ := h
    exact hQ a w ρ (.refl hw) ht rfl
  | o :: rest, [], hi, f, f', S, S', ρ, a, w, h, hw, ht, hro, hf, hQ => by simp at hi
  | o :: rest, i :: is, hi, f, f', S, S', ρ, a, w, h, hw, ht, hro, hf, hQ => by
    simp only [List.map_cons, List.cons.injEq] at hi
    obtain ⟨ho, hi⟩ := hi
    simp only [wpOps, ho]
    rw [awanted_eq ht]
    simp only [aops] at h
    cases hwn : awanted ops o f with
    | false =>
      rw [hwn] at h
      simp only [Bool.false_eq_true, if_false]
      exact aops_sound hP hC hi h hw (ht.put o.dst (.undef ρ)) hro hf (fun a' w' ρ' h1 h2 h3 => hQ a' w' ρ' h1 h2 (by rw [h3]; cases o.dst <;> rfl))
    | true =>
      rw [hwn] at h
      simp only [cond_true] at h
      simp only [if_true]
      left
      split at h
      · rename_i v S1 hs
        rw [ble_eq] at h
        by_cases hl : S.next ≤ S1.next
        · simp only [hl, decide_true, cond_true] at h
          have hle := aops_le h
          refine astep_sound hP hC hw ht hro (hf.sub (Nat.le_refl _) hle) hs ?_
          intro cv w1 ρ1 h1 h2
          have hx := h1.ext (hf.sub (Nat.le_refl _) hle)
          exact aops_sound hP hC hi h h1.wr ((ht.mono hx).put o.dst h2) (by omega) (hf.later h1) (fun a' w' ρ' h3 h4 h5 => hQ a' w' ρ' (h1.trans h3) h4 (by rw [h5]; cases o.dst <;> rfl))
        · simp [hl] at h
      · cases h

end Go.Ab

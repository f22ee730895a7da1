/-
  SYMBOLIC RUNS, part 7: drawn regions, code and calls are told.
-/
import Derived.Test.YtccpckiiademmaaGreatDoorNr6
set_option linter.unusedSimpArgs false
set_option linter.unusedVariables false
namespace Go.Ab

section
variable {E : Env} {Q : AX → Fr → St → Prop} {R : Value → St → Prop} {P : Program} {kn : Kn} {ps : FuncId → Option (List Value → Option Value)} {ro : Nat} {K : Tab} {S : St} {tp : Tp} {f : Fr} {o : Oper} {k : Value → Tab → NT}

theorem isCall_builtin {P : Program} {b : Builtin} {ts : List TypeId} {args : List Value} {g : FuncId} {l : List Value} : abuiltin P ro S b ts args ≠ some (.call g l) := by
  intro h
  unfold abuiltin at h
  split at h
  · obtain ⟨_, _, h1⟩ := arOf_some h; cases h1
  · obtain ⟨_, _, _, h1⟩ := arOf2_some h; cases h1
  · obtain ⟨_, _, _, h1⟩ := arOf2_some h; cases h1
  · split at h
    · obtain ⟨_, _, h1⟩ := arOf_some h; cases h1
    · cases h
  · split at h
    · obtain ⟨_, _, h1⟩ := arOf_some h; cases h1
    · cases h
  · split at h <;> cases h
  · cases h

/-- Only calls enter functions. -/
theorem isCall_of {g : FuncId} {args : List Value} (h : aop P kn ro f S o = some (.call g args)) : isCallOp o = true := by
  rw [aop_eq] at h
  unfold aopS at h
  unfold isCallOp
  cases ho : o.op with
  | call c =>
    rw [ho] at h
    simp only at h ⊢
    unfold acallOp at h
    split at h
    · cases h
    · cases hc : c.callee with
      | builtin b => rw [hc] at h; exact (isCall_builtin h).elim
      | value x => rfl
      | invoke r n => rfl
  | buildSlice t n parts =>
    rw [ho] at h
    exfalso
    revert h
    cases hb : Nat.blt n UNK <;> simp only [arOf2, hb, cond_true, cond_false] <;> repeat' (first | (intro h; cases h; done) | split)
  | makeFunc fn first caps =>
    rw [ho] at h
    exfalso
    cases fn with
    | func g =>
      simp only at h
      split at h
      · split at h <;> cases h
      · cases h
    | _ => cases h
  | _ =>
    rw [ho] at h
    exfalso
    revert h
    simp only [arOf, arOf2, arOfS]
    repeat' (first | (intro h; cases h; done) | split)

/-- A call of a function looks at no heap itself. -/
theorem callOp_sound (hc : isCallOp o = true) (h : VC E Q R (nop P kn ps true f o.op K k) tp) :
    (∃ v tp', (∀ ro S, aop P kn ro f S o = some (.val v S)) ∧ VC E Q R (k v K) tp') ∨
    (∃ g args p v tp', (∀ ro S, aop P kn ro f S o = some (.call g args)) ∧ ps g = some p ∧ p args = some v ∧ VC E Q R (k v K) tp') ∨
    (∃ g args tp', (∀ ro S, aop P kn ro f S o = some (.call g args)) ∧ ps g = none ∧ VC E Q R (.lcall g args K fun v N => k v (tapp K N)) tp') := by
  have hcase : ∀ (g : FuncId) (args : List Value) (tp : Tp), (∀ ro S, aop P kn ro f S o = cond (enterable P g) (some (.call g args)) none) → kn.ext g = 0 → VC E Q R (nenter P kn ps true g args K k) tp →
      (∃ g args p v tp', (∀ ro S, aop P kn ro f S o = some (.call g args)) ∧ ps g = some p ∧ p args = some v ∧ VC E Q R (k v K) tp') ∨
      (∃ g args tp', (∀ ro S, aop P kn ro f S o = some (.call g args)) ∧ ps g = none ∧ VC E Q R (.lcall g args K fun v N => k v (tapp K N)) tp') := by
    intro g args tp ha he h
    unfold nenter at h
    rw [he] at h
    simp only at h
    cases hb : enterable P g with
    | false => rw [hb] at h; exact h.elim
    | true =>
      rw [hb] at h
      simp only at h
      have ha' : ∀ ro S, aop P kn ro f S o = some (.call g args) := fun ro S => by rw [ha ro S, hb]; rfl
      cases hp : ps g with
      | none => rw [hp] at h; exact .inr ⟨g, args, tp, ha', hp, h⟩
      | some p =>
        rw [hp] at h
        obtain ⟨v, h1, h2⟩ := vc_ofO h
        exact .inl ⟨g, args, p, v, tp, ha', hp, h1, h2⟩
  unfold isCallOp at hc
  cases ho : o.op with
  | call c =>
    rw [ho] at hc h
    simp only at hc
    have hop : ∀ ro S, aop P kn ro f S o = acallOp P kn ro f S c := fun ro S => by rw [aop_eq]; unfold aopS; rw [ho]
    have h' : VC E Q R (ncall P kn ps true f c K k) tp := h
    unfold ncall at h'
    unfold acallOp at hop
    split at h'
    · exact h'.elim
    · rename_i args ha
      simp only [ha] at hop
      cases hcc : c.callee with
      | builtin b => rw [hcc] at hc; cases hc
      | value x =>
        rw [hcc] at h' hop
        simp only at h' hop
        split at h'
        · rename_i g _ caps hx
          simp only [hx] at hop
          split at h'
          · rename_i he
            simp only [he] at hop
            rcases hcase g _ tp hop he h' with h1 | h1
            · exact .inr (.inl h1)
            · exact .inr (.inr h1)
          · rename_i j he
            simp only [he] at hop
            obtain ⟨v, h1, h2⟩ := vc_ofO h'
            exact .inl ⟨v, tp, fun ro S => by rw [hop ro S, h1]; rfl, h2⟩
        · exact h'.elim
      | invoke r name =>
        rw [hcc] at h' hop
        simp only at h' hop
        split at h'
        · rename_i t v hr
          simp only [hr] at hop
          split at h'
          · rename_i g hg
            simp only [hg] at hop
            cases he : kn.ext g with
            | zero =>
              simp only [he] at hop
              rcases hcase g _ tp hop he h' with h1 | h1
              · exact .inr (.inl h1)
              · exact .inr (.inr h1)
            | succ n =>
              unfold nenter at h'
              rw [he] at h'
              exact h'.elim
          · exact h'.elim
        · exact h'.elim
  | _ => rw [ho] at hc; cases hc

theorem vc_fps : ∀ {ns : List Nat} {k : List Nat → NT} {tp : Tp}, VC E Q R (nfps ns K k) tp → ∃ is tp', (∀ n, n ∈ ns → ∃ i, i ∈ is ∧ ∃ e, tget K i = some e ∧ e.nm = n) ∧ (∀ i, i ∈ is → ∃ e, tget K i = some e ∧ e.nm ∈ ns) ∧ VC E Q R (k is) tp'
  | [], k, tp, h => ⟨[], tp, fun n hn => (by cases hn), fun i hi => (by cases hi), h⟩
  | n :: ns, k, tp, h => by
    simp only [nfps] at h
    obtain ⟨i, e, tp1, h1, h2, h3⟩ := vc_find h
    obtain ⟨is, tp2, h4, h5, h6⟩ := vc_fps h3
    refine ⟨i :: is, tp2, fun m hm => ?_, fun j hj => ?_, h6⟩
    · rcases List.mem_cons.1 hm with rfl | hm
      · exact ⟨i, by simp, e, h1, h2⟩
      · obtain ⟨j, hj, h7⟩ := h4 m hm
        exact ⟨j, by simp [hj], h7⟩
    · rcases List.mem_cons.1 hj with rfl | hj
      · exact ⟨e, h1, by rw [h2]; simp⟩
      · obtain ⟨e', h7, h8⟩ := h5 j hj
        exact ⟨e', h7, by simp [h8]⟩

theorem get_nil (n : Nat) : (Tr.nil : Tr Blk).get n = none := rfl

/-- A part of the table. -/
theorem TOK.part {fp ns : List Nat} {w : Bool} (hK : TOK ro K S) (h : ∀ i, i ∈ fp → ∃ e, tget K i = some e ∧ e.nm ∈ ns) : TOK (cond w ro S.next) (nres K fp w 0) ⟨setMany .nil S.h ns, S.next⟩ := by
  have hg : ∀ i e, tget (nres K fp w 0) i = some e → i ∈ fp ∧ ∃ e0, tget K i = some e0 ∧ e = ⟨e0.nm, e0.blk, cond w e0.rw false⟩ := fun i e he => by
    rw [tget_nres, Nat.zero_add] at he
    cases hi : isIn i fp with
    | false => rw [hi] at he; cases he
    | true =>
      rw [hi] at he
      cases h0 : tget K i with
      | none => rw [h0] at he; cases he
      | some e0 =>
        rw [h0] at he
        simp only [cond_true, Option.map_some, Option.some.injEq] at he
        exact ⟨isIn_iff.1 hi, e0, rfl, he.symm⟩
  refine ⟨fun n b hn => ?_, fun i e he => ?_, fun i j e e' he he' hnm => ?_, fun i e he hr => ?_, ?_⟩
  · simp only [setMany_get, get_nil] at hn
    split at hn
    · exact hK.wf n b hn
    · cases hn
  · obtain ⟨hi, e0, h0, rfl⟩ := hg i e he
    obtain ⟨e1, h1, h2⟩ := h i hi
    rw [h0] at h1; cases h1
    refine ⟨?_, (hK.at_ i e0 h0).2⟩
    simp only [setMany_get]
    rw [if_pos h2]; exact (hK.at_ i e0 h0).1
  · obtain ⟨_, e0, h0, rfl⟩ := hg i e he
    obtain ⟨_, e1, h1, rfl⟩ := hg j e' he'
    exact hK.inj i j e0 e1 h0 h1 hnm
  · obtain ⟨_, e0, h0, rfl⟩ := hg i e he
    cases w with
    | true => exact hK.rw_ i e0 h0 hr
    | false => cases hr
  · cases w with
    | true => exact hK.lo
    | false => exact Nat.le_refl _

/-- What a part's step makes of the whole. -/
theorem TOK.merge {fp ns : List Nat} {w : Bool} (hK : TOK ro K S) (h0 : ∀ n, n ∈ ns → ∃ i, i ∈ fp ∧ ∃ e, tget K i = some e ∧ e.nm = n) (h : ∀ i, i ∈ fp → ∃ e, tget K i = some e ∧ e.nm ∈ ns) {K1 : Tab} {S1 : St}
    (hK1 : TOK (cond w ro S.next) K1 S1) (hs : Step (nres K fp w 0) ⟨setMany .nil S.h ns, S.next⟩ K1 S1) :
    TOK ro (nmerge K K1 fp w 0) ⟨setMany S.h S1.h (cond w (ns ++ namesOf S.next S1.next) (namesOf S.next S1.next)), S1.next⟩ ∧ Step K S (nmerge K K1 fp w 0) ⟨setMany S.h S1.h (cond w (ns ++ namesOf S.next S1.next) (namesOf S.next S1.next)), S1.next⟩ := by
  have hlen : tlen K ≤ tlen K1 := by have := hs.len; rwa [tlen_nres] at this
  have hle : S.next ≤ S1.next := hs.le
  have hm : ∀ i, tget (nmerge K K1 fp w 0) i = if i < tlen K then cond (w && isIn i fp) (tget K1 i) (tget K i) else tget K1 i := fun i => by rw [tget_nmerge fp w K K1 0 i hlen, Nat.zero_add]
  -- where a row of the merged table comes from
  have hfrom : ∀ i e, tget (nmerge K K1 fp w 0) i = some e → (tlen K ≤ i ∧ tget K1 i = some e ∧ S.next ≤ e.nm) ∨ (i < tlen K ∧ w = true ∧ i ∈ fp ∧ tget K1 i = some e ∧ ∃ e0, tget K i = some e0 ∧ e.nm = e0.nm ∧ e.rw = e0.rw ∧ (e0.rw = false → e = e0)) ∨ (i < tlen K ∧ (w && isIn i fp) = false ∧ tget K i = some e) := fun i e he => by
    rw [hm] at he
    split at he
    · rename_i hi
      cases hc : (w && isIn i fp) with
      | false => rw [hc] at he; exact .inr (.inr ⟨hi, rfl, he⟩)
      | true =>
        rw [hc] at he
        simp only [Bool.and_eq_true] at hc
        obtain ⟨e1, h1, h2, h3, h4⟩ := hs.old i e (by rw [tlen_nres]; exact hi) he
        rw [tget_nres, Nat.zero_add, hc.2] at h1
        cases hk : tget K i with
        | none => rw [hk] at h1; cases h1
        | some e0 =>
          rw [hk, hc.1] at h1
          simp only [cond_true, Option.map_some, Option.some.injEq] at h1
          have h1' : e0 = e1 := h1
          subst h1'
          exact .inr (.inl ⟨hi, hc.1, isIn_iff.1 hc.2, he, e0, rfl, h2, h3, h4⟩)
    · rename_i hi
      exact .inl ⟨by omega, he, hs.new i e (by rw [tlen_nres]; omega) he⟩
  have hget : ∀ n, (setMany S.h S1.h (cond w (ns ++ namesOf S.next S1.next) (namesOf S.next S1.next))).get n = if (w = true ∧ n ∈ ns) ∨ (S.next ≤ n ∧ n < S1.next) then S1.h.get n else S.h.get n := fun n => by
    rw [setMany_get]
    cases w with
    | true => simp only [cond_true, List.mem_append, mem_namesOf, true_and]
    | false => simp only [cond_false, mem_namesOf, Bool.false_eq_true, false_and, false_or]
  have hnm : ∀ i e, tget (nmerge K K1 fp w 0) i = some e → (tlen K ≤ i ∧ S.next ≤ e.nm) ∨ ∃ e0, i < tlen K ∧ tget K i = some e0 ∧ e.nm = e0.nm := fun i e he => by
    rcases hfrom i e he with ⟨h1, _, h2⟩ | ⟨h1, _, _, _, e0, h2, h3, _⟩ | ⟨h1, _, h2⟩
    · exact .inl ⟨h1, h2⟩
    · exact .inr ⟨e0, h1, h2, h3⟩
    · exact .inr ⟨e, h1, h2, rfl⟩
  refine ⟨⟨fun n b hn => ?_, fun i e he => ?_, fun i j e e' he he' hne => ?_, fun i e he hr => ?_, by have := hK.lo; show ro ≤ S1.next; omega⟩, ⟨hle, fun n b hn hf => ⟨?_, by have := hn.2; show n < S1.next; omega⟩, fun i e he1 he => ?_, fun i e hi he => ?_, ?_, ?_⟩⟩
  · rw [hget] at hn
    split at hn
    · exact hK1.wf n b hn
    · have := hK.wf n b hn; show n < S1.next; omega
  · rcases hfrom i e he with ⟨h1, h2, h3⟩ | ⟨h1, h2, h3, h4, e0, h5, h6, _⟩ | ⟨h1, h2, h3⟩
    · have h4 := hK1.at_ i e h2
      refine ⟨?_, h4.2⟩
      rw [hget, if_pos (.inr ⟨h3, h4.2⟩)]; exact h4.1
    · have h7 := hK1.at_ i e h4
      refine ⟨?_, h7.2⟩
      obtain ⟨e1, h8, h9⟩ := h i h3
      rw [h5] at h8; cases h8
      rw [hget, if_pos (.inl ⟨h2, by rw [h6]; exact h9⟩)]; exact h7.1
    · have h4 := hK.at_ i e h3
      refine ⟨?_, by have := h4.2; show e.nm < S1.next; omega⟩
      rw [hget, if_neg]
      · exact h4.1
      · rintro (⟨h5, h6⟩ | ⟨h5, _⟩)
        · obtain ⟨j, h7, e1, h8, h9⟩ := h0 _ h6
          have := hK.inj j i e1 e h8 h3 h9
          subst this
          rw [h5, isIn_iff.2 h7] at h2; cases h2
        · have := h4.2; omega
  · rcases hnm i e he with ⟨h1, h2⟩ | ⟨e0, h1, h2, h3⟩ <;> rcases hnm j e' he' with ⟨g1, g2⟩ | ⟨g0, g1, g2, g3⟩
    · rw [hm, if_neg (by omega)] at he
      rw [hm, if_neg (by omega)] at he'
      exact hK1.inj i j e e' he he' hne
    · have := (hK.at_ j g0 g2).2; omega
    · have := (hK.at_ i e0 h2).2; omega
    · exact hK.inj i j e0 g0 h2 g2 (by rw [← h3, ← g3]; exact hne)
  · rcases hfrom i e he with ⟨h1, h2, h3⟩ | ⟨h1, h2, h3, h4, e0, h5, h6, h7, _⟩ | ⟨h1, h2, h3⟩
    · have := hK.lo; omega
    · rw [h6]; exact hK.rw_ i e0 h5 (by rw [← h7]; exact hr)
    · exact hK.rw_ i e h3 hr
  · show (setMany S.h S1.h _).get n = some b
    rw [hget]
    split
    · rename_i hc
      rcases hc with ⟨h1, h2⟩ | ⟨h1, _⟩
      · refine (hs.keep n b ⟨?_, hn.2⟩ fun i e he hr hne => ?_).1
        · simp only [setMany_get]; rw [if_pos h2]; exact hn.1
        · rw [tget_nres] at he
          cases hi : isIn (0 + i) fp with
          | false => rw [hi] at he; cases he
          | true =>
            rw [hi] at he
            cases h3 : tget K i with
            | none => rw [h3] at he; cases he
            | some e0 =>
              rw [h3, h1] at he
              simp only [cond_true, Option.map_some, Option.some.injEq] at he
              subst he
              exact hf i e0 h3 hr hne
      · have := hn.2; omega
    · exact hn.1
  · rcases hfrom i e he with ⟨h1, h2, h3⟩ | ⟨h1, h2, h3, h4, e0, h5, h6, h7, h8⟩ | ⟨h1, h2, h3⟩
    · omega
    · exact ⟨e0, h5, h6, h7, h8⟩
    · exact ⟨e, h3, rfl, rfl, fun _ => rfl⟩
  · rcases hnm i e he with ⟨h1, h2⟩ | ⟨e0, h1, _⟩
    · exact h2
    · omega
  · rw [tlen_nmerge fp w K K1 0 hlen]; exact hlen
  · rw [tlen_nmerge fp w K K1 0 hlen]
    have := hs.cnt
    rw [tlen_nres] at this
    exact this

/-- New rows behind the table. -/
theorem TOK.news {N : Tab} {S1 : St} (hK : TOK ro K S) (hN : News S N S1) : TOK ro (tapp K N) ⟨setMany S.h S1.h (namesOf S.next S1.next), S1.next⟩ ∧ Delta K S (tapp K N) ⟨setMany S.h S1.h (namesOf S.next S1.next), S1.next⟩ ∧ News S N ⟨setMany S.h S1.h (namesOf S.next S1.next), S1.next⟩ := by
  have hget : ∀ n, (setMany S.h S1.h (namesOf S.next S1.next)).get n = if S.next ≤ n ∧ n < S1.next then S1.h.get n else S.h.get n := fun n => by
    rw [setMany_get]; simp only [mem_namesOf]
  have hle := hN.le
  have hold : ∀ n b, At S n b → At ⟨setMany S.h S1.h (namesOf S.next S1.next), S1.next⟩ n b := fun n b hn => by
    refine ⟨?_, by have := hn.2; show n < S1.next; omega⟩
    rw [hget, if_neg (by have := hn.2; omega)]; exact hn.1
  have hnew : ∀ i e, tget N i = some e → At ⟨setMany S.h S1.h (namesOf S.next S1.next), S1.next⟩ e.nm e.blk := fun i e he => by
    obtain ⟨h1, h2⟩ := hN.at_ i e he
    refine ⟨?_, h1.2⟩
    rw [hget, if_pos ⟨h2, h1.2⟩]; exact h1.1
  have hwf : ∀ n b, (setMany S.h S1.h (namesOf S.next S1.next)).get n = some b → n < S1.next := fun n b hn => by
    rw [hget] at hn
    split at hn
    · rename_i hc; exact hc.2
    · have := hK.wf n b hn; omega
  refine ⟨⟨hwf, fun i e he => ?_, fun i j e e' he he' hnm => ?_, fun i e he hr => ?_, by have := hK.lo; show ro ≤ S1.next; omega⟩, ⟨hle, fun n b hn _ => hold n b hn, fun i e he hr => ?_⟩, ⟨hle, hwf, fun i e he => ⟨hnew i e he, (hN.at_ i e he).2⟩, hN.inj⟩⟩
  · rw [tget_tapp] at he
    split at he
    · exact hold _ _ (hK.at_ i e he)
    · exact hnew _ e he
  · rw [tget_tapp] at he he'
    split at he
    · split at he'
      · exact hK.inj i j e e' he he' hnm
      · have := (hK.at_ i e he).2
        have := (hN.at_ _ e' he').2; omega
    · split at he'
      · have := (hK.at_ j e' he').2
        have := (hN.at_ _ e he).2; omega
      · have := hN.inj _ _ e e' he he' hnm; omega
  · rw [tget_tapp] at he
    split at he
    · exact hK.rw_ i e he hr
    · have := (hN.at_ _ e he).2; have := hK.lo; omega
  · rw [tget_tapp] at he
    split at he
    · exact .inl ⟨i, e, he, hr, rfl⟩
    · exact .inr (hN.at_ _ e he).2

theorem news_nil (hw : ∀ n b, S.h.get n = some b → n < S.next) : News S [] S := ⟨Nat.le_refl _, hw, fun i e he => by simp [tget] at he, fun i j e e' he => by simp [tget] at he⟩
theorem tapp_nil : ∀ K : Tab, tapp K [] = K
  | [] => rfl
  | x :: xs => by simp only [tapp, tapp_nil xs]

end
end Go.Ab

/-
  SYMBOLIC RUNS, part 2: each operation is told.
-/
import Derived.Test.YtccpckiiademmaaGreatDoorNr1
set_option linter.unusedSimpArgs false
set_option linter.unusedVariables false
namespace Go.Ab

theorem tget_lt : ∀ {K : Tab} {i : Nat} {e : Ent}, tget K i = some e → i < tlen K
  | [], i, e, h => by simp [tget] at h
  | x :: xs, 0, e, h => by simp [tlen]
  | x :: xs, i + 1, e, h => by simp only [tget] at h; have := tget_lt h; simp only [tlen]; omega

theorem tget_ge : ∀ {K : Tab} {i : Nat}, tlen K ≤ i → tget K i = none
  | [], i, h => by simp [tget]
  | x :: xs, 0, h => by simp [tlen] at h
  | x :: xs, i + 1, h => by simp only [tlen] at h; simp only [tget]; exact tget_ge (by omega)

theorem tlen_tadd (e : Ent) : ∀ K : Tab, tlen (tadd K e) = tlen K + 1
  | [] => rfl
  | x :: xs => by simp only [tadd, tlen, tlen_tadd e xs]

theorem tget_tadd (e : Ent) : ∀ (K : Tab) (i : Nat), tget (tadd K e) i = if i = tlen K then some e else tget K i
  | [], 0 => by simp [tadd, tget, tlen]
  | [], i + 1 => by simp [tadd, tget, tlen]
  | x :: xs, 0 => by simp [tadd, tget, tlen]
  | x :: xs, i + 1 => by simp only [tadd, tget, tlen, tget_tadd e xs i]; by_cases h : i = tlen xs <;> simp [h]

theorem tlen_tset (y : Option Ent) : ∀ (K : Tab) (j : Nat), tlen (tset K j y) = tlen K
  | [], j => by simp [tset]
  | x :: xs, 0 => rfl
  | x :: xs, j + 1 => by simp only [tset, tlen, tlen_tset y xs j]

theorem tget_tset (y : Option Ent) : ∀ (K : Tab) (j i : Nat), tget (tset K j y) i = if i = j ∧ j < tlen K then y else tget K i
  | [], j, i => by simp [tset, tget, tlen]
  | x :: xs, 0, 0 => by simp [tset, tget, tlen]
  | x :: xs, 0, i + 1 => by simp [tset, tget]
  | x :: xs, j + 1, 0 => by simp [tset, tget]
  | x :: xs, j + 1, i + 1 => by simp only [tset, tget, tlen, tget_tset y xs j i]; by_cases h : i = j ∧ j < tlen xs <;> (simp [h]; try omega)

/-- A step: names stay where they are; new rows have new names. -/
structure Step (K : Tab) (S : St) (K' : Tab) (S' : St) : Prop where
  le : S.next ≤ S'.next
  keep : ∀ n b, At S n b → (∀ i e, tget K i = some e → e.rw = true → e.nm ≠ n) → At S' n b
  old : ∀ i e', i < tlen K → tget K' i = some e' → ∃ e, tget K i = some e ∧ e'.nm = e.nm ∧ e'.rw = e.rw ∧ (e.rw = false → e' = e)
  new : ∀ i e, tlen K ≤ i → tget K' i = some e → S.next ≤ e.nm
  len : tlen K ≤ tlen K'
  cnt : S'.next + tlen K = S.next + tlen K'

theorem Step.delta {K K' : Tab} {S S' : St} (h : Step K S K' S') : Delta K S K' S' :=
  ⟨h.le, h.keep, fun i e he hr => by
    by_cases hi : i < tlen K
    · obtain ⟨e0, h1, h2, h3, _⟩ := h.old i e hi he
      exact .inl ⟨i, e0, h1, by rw [← h3]; exact hr, h2.symm⟩
    · exact .inr (h.new i e (by omega) he)⟩

theorem Step.refl (K : Tab) (S : St) : Step K S K S := ⟨Nat.le_refl _, fun _ _ h _ => h, fun i e _ h => ⟨e, h, rfl, rfl, fun _ => rfl⟩, fun i e hi h => (by rw [tget_ge hi] at h; cases h), Nat.le_refl _, rfl⟩

theorem Delta.refl (K : Tab) (S : St) : Delta K S K S := (Step.refl K S).delta

theorem Delta.trans {K K1 K2 : Tab} {S S1 S2 : St} (h : Delta K S K1 S1) (g : Delta K1 S1 K2 S2) : Delta K S K2 S2 :=
  ⟨Nat.le_trans h.le g.le, fun n b hn hf => g.keep n b (h.keep n b hn hf) (fun i e he hr hnm => by
    rcases h.rw_ i e he hr with ⟨j, e0, h1, h2, h3⟩ | h1
    · exact hf j e0 h1 h2 (h3.trans hnm)
    · have := hn.2; omega), fun i e he hr => by
    rcases g.rw_ i e he hr with ⟨j, e0, h1, h2, h3⟩ | h1
    · rcases h.rw_ j e0 h1 h2 with ⟨m, e1, h4, h5, h6⟩ | h4
      · exact .inl ⟨m, e1, h4, h5, h6.trans h3⟩
      · exact .inr (by omega)
    · exact .inr (by have := h.le; omega)⟩

theorem Step.trans {K K1 K2 : Tab} {S S1 S2 : St} (h : Step K S K1 S1) (g : Step K1 S1 K2 S2) : Step K S K2 S2 :=
  ⟨Nat.le_trans h.le g.le, (h.delta.trans g.delta).keep, fun i e' hi he => by
    obtain ⟨e1, h1, h2, h3, h4⟩ := g.old i e' (Nat.lt_of_lt_of_le hi h.len) he
    obtain ⟨e0, h5, h6, h7, h8⟩ := h.old i e1 hi h1
    exact ⟨e0, h5, h2.trans h6, h3.trans h7, fun hr => by rw [h4 (by rw [h7]; exact hr), h8 hr]⟩, fun i e hi he => by
    by_cases h1 : i < tlen K1
    · obtain ⟨e0, h5, h6, _⟩ := g.old i e h1 he
      rw [h6]; exact h.new i e0 hi h5
    · have := g.new i e (by omega) he
      have := h.le; omega, Nat.le_trans h.len g.len, by have := h.cnt; have := g.cnt; omega⟩

/-- A new row. -/
theorem TOK.new {ro : Nat} {K : Tab} {S : St} (h : TOK ro K S) (b : Blk) (w : Bool) : TOK ro (tadd K ⟨S.next, b, w⟩) (S.new b) ∧ Step K S (tadd K ⟨S.next, b, w⟩) (S.new b) := by
  have hk : ∀ n c, At S n c → At (S.new b) n c := fun n c hn => by
    refine ⟨?_, by simp only [St.new]; have := hn.2; omega⟩
    simp only [St.new, Tr.get_set]
    rw [if_neg (by have := hn.2; omega)]; exact hn.1
  refine ⟨⟨fun n c hn => ?_, fun i e he => ?_, fun i j e e' he he' hnm => ?_, fun i e he hr => ?_, by simp only [St.new]; have := h.lo; omega⟩, ⟨by simp [St.new], fun n c hn _ => hk n c hn, fun i e hi he => ?_, fun i e hi he => ?_, by rw [tlen_tadd]; omega, by rw [tlen_tadd]; simp only [St.new]; omega⟩⟩
  · simp only [St.new, Tr.get_set] at hn ⊢
    split at hn
    · omega
    · have := h.wf n c hn; omega
  · rw [tget_tadd] at he
    split at he
    · simp only [Option.some.injEq] at he; subst he
      exact ⟨by simp [St.new, Tr.get_set], by simp [St.new]⟩
    · exact hk _ _ (h.at_ i e he)
  · rw [tget_tadd] at he he'
    split at he
    · split at he'
      · omega
      · simp only [Option.some.injEq] at he; subst he
        have := (h.at_ j e' he').2
        simp only at hnm; omega
    · split at he'
      · simp only [Option.some.injEq] at he'; subst he'
        have := (h.at_ i e he).2
        simp only at hnm; omega
      · exact h.inj i j e e' he he' hnm
  · rw [tget_tadd] at he
    split at he
    · simp only [Option.some.injEq] at he; subst he; exact h.lo
    · exact h.rw_ i e he hr
  · rw [tget_tadd, if_neg (by omega)] at he
    exact ⟨e, he, rfl, rfl, fun _ => rfl⟩
  · rw [tget_tadd] at he
    split at he
    · simp only [Option.some.injEq] at he; subst he; exact Nat.le_refl _
    · rw [tget_ge hi] at he; cases he

/-- A row is turned. -/
theorem TOK.turn {ro : Nat} {K : Tab} {S : St} (h : TOK ro K S) {i : Nat} {e : Ent} (he : tget K i = some e) (hr : e.rw = true) (b : Blk) :
    TOK ro (tset K i (some ⟨e.nm, b, true⟩)) ⟨S.h.set e.nm (some b), S.next⟩ ∧ Step K S (tset K i (some ⟨e.nm, b, true⟩)) ⟨S.h.set e.nm (some b), S.next⟩ := by
  have hlt := tget_lt he
  refine ⟨⟨fun n c hn => ?_, fun j e1 h1 => ?_, fun j m e1 e2 h1 h2 hnm => ?_, fun j e1 h1 h2 => ?_, h.lo⟩, ⟨Nat.le_refl _, fun n c hn hf => ⟨?_, hn.2⟩, fun j e1 hj h1 => ?_, fun j e1 hj h1 => ?_, by rw [tlen_tset]; omega, by rw [tlen_tset]⟩⟩
  · simp only [Tr.get_set] at hn
    split at hn
    · rename_i e1; rw [e1]; exact (h.at_ i e he).2
    · exact h.wf n c hn
  · rw [tget_tset] at h1
    split at h1
    · simp only [Option.some.injEq] at h1; subst h1
      exact ⟨by simp [Tr.get_set], (h.at_ i e he).2⟩
    · rename_i hne
      have h2 := h.at_ j e1 h1
      refine ⟨?_, h2.2⟩
      simp only [Tr.get_set]
      rw [if_neg (fun e2 => hne ⟨h.inj j i e1 e h1 he e2, hlt⟩)]
      exact h2.1
  · rw [tget_tset] at h1 h2
    split at h1
    · rename_i hj
      split at h2
      · rename_i hm; omega
      · simp only [Option.some.injEq] at h1; subst h1
        rw [hj.1]
        exact h.inj i m e e2 he h2 hnm
    · split at h2
      · rename_i hm
        simp only [Option.some.injEq] at h2; subst h2
        rw [hm.1]
        exact h.inj j i e1 e h1 he hnm
      · exact h.inj j m e1 e2 h1 h2 hnm
  · rw [tget_tset] at h1
    split at h1
    · simp only [Option.some.injEq] at h1; subst h1; exact h.rw_ i e he hr
    · exact h.rw_ j e1 h1 h2
  · show (S.h.set e.nm (some b)).get n = some c
    rw [Tr.get_set, if_neg (fun e1 => hf i e he hr e1.symm)]; exact hn.1
  · rw [tget_tset] at h1
    split at h1
    · rename_i hc
      simp only [Option.some.injEq] at h1; subst h1
      exact ⟨e, by rw [hc.1]; exact he, rfl, hr.symm, fun h2 => by rw [hr] at h2; cases h2⟩
    · exact ⟨e1, h1, rfl, rfl, fun _ => rfl⟩
  · rw [tget_tset] at h1
    split at h1
    · omega
    · rw [tget_ge hj] at h1; cases h1

/-- A row is dropped. -/
theorem TOK.drop {ro : Nat} {K : Tab} {S : St} (h : TOK ro K S) {i : Nat} {e : Ent} (he : tget K i = some e) (hr : e.rw = true) :
    TOK ro (tset K i none) ⟨S.h.set e.nm none, S.next⟩ ∧ Step K S (tset K i none) ⟨S.h.set e.nm none, S.next⟩ := by
  have hlt := tget_lt he
  refine ⟨⟨fun n c hn => ?_, fun j e1 h1 => ?_, fun j m e1 e2 h1 h2 hnm => ?_, fun j e1 h1 h2 => ?_, h.lo⟩, ⟨Nat.le_refl _, fun n c hn hf => ⟨?_, hn.2⟩, fun j e1 hj h1 => ?_, fun j e1 hj h1 => ?_, by rw [tlen_tset]; omega, by rw [tlen_tset]⟩⟩
  · simp only [Tr.get_set] at hn
    split at hn
    · cases hn
    · exact h.wf n c hn
  · rw [tget_tset] at h1
    split at h1
    · cases h1
    · rename_i hne
      have h2 := h.at_ j e1 h1
      refine ⟨?_, h2.2⟩
      simp only [Tr.get_set]
      rw [if_neg (fun e2 => hne ⟨h.inj j i e1 e h1 he e2, hlt⟩)]
      exact h2.1
  · rw [tget_tset] at h1 h2
    split at h1
    · cases h1
    · split at h2
      · cases h2
      · exact h.inj j m e1 e2 h1 h2 hnm
  · rw [tget_tset] at h1
    split at h1
    · cases h1
    · exact h.rw_ j e1 h1 h2
  · show (S.h.set e.nm none).get n = some c
    rw [Tr.get_set, if_neg (fun e1 => hf i e he hr e1.symm)]; exact hn.1
  · rw [tget_tset] at h1
    split at h1
    · cases h1
    · exact ⟨e1, h1, rfl, rfl, fun _ => rfl⟩
  · rw [tget_tset] at h1
    split at h1
    · cases h1
    · rw [tget_ge hj] at h1; cases h1

section
variable {E : Env} {Q : AX → Fr → St → Prop} {R : Value → St → Prop} {P : Program} {kn : Kn} {ro : Nat} {K : Tab} {S : St} {tp : Tp}

theorem vc_ofO {q : Option Value} {k : Value → NT} (h : VC E Q R (ofO q k) tp) : ∃ v, q = some v ∧ VC E Q R (k v) tp := by
  unfold ofO at h
  cases q with
  | none => simp [VC] at h
  | some v => exact ⟨v, rfl, h⟩

theorem vc_oV {q : Option Value} {k : Value → NT} (h : VC E Q R (.oV q k) tp) : ∃ v tp', q = some v ∧ VC E Q R (k v) tp' := by
  unfold VC at h
  split at h
  · split at h
    · exact ⟨_, _, rfl, h⟩
    · exact h.elim
  · exact ⟨_, _, h.1, h.2⟩
  · exact h.elim
theorem vc_oL {q : Option (List Value)} {k : List Value → NT} (h : VC E Q R (.oL q k) tp) : ∃ v tp', q = some v ∧ VC E Q R (k v) tp' := by
  unfold VC at h
  split at h
  · split at h
    · exact ⟨_, _, rfl, h⟩
    · exact h.elim
  · exact ⟨_, _, h.1, h.2⟩
  · exact h.elim
theorem vc_oB {q : Option Blk} {k : Blk → NT} (h : VC E Q R (.oB q k) tp) : ∃ v tp', q = some v ∧ VC E Q R (k v) tp' := by
  unfold VC at h
  split at h
  · split at h
    · exact ⟨_, _, rfl, h⟩
    · exact h.elim
  · exact ⟨_, _, h.1, h.2⟩
  · exact h.elim
theorem vc_oY {q : Option (List UInt8)} {k : List UInt8 → NT} (h : VC E Q R (.oY q k) tp) : ∃ v tp', q = some v ∧ VC E Q R (k v) tp' := by
  unfold VC at h
  split at h
  · split at h
    · exact ⟨_, _, rfl, h⟩
    · exact h.elim
  · exact ⟨_, _, h.1, h.2⟩
  · exact h.elim
theorem vc_need {c : Prop} {t : NT} (h : VC E Q R (.need c t) tp) : c ∧ VC E Q R t tp := h
theorem vc_bit {b : Bool} {k : Bool → NT} (h : VC E Q R (.bit b k) tp) : ∃ tp', VC E Q R (k b) tp' := by
  cases tp <;> cases b <;> simp only [VC] at h <;> first
    | exact h.elim
    | exact ⟨_, h.1 trivial⟩
    | exact ⟨_, h.2 trivial⟩
    | exact ⟨_, h.1 rfl⟩
    | exact ⟨_, h.2 rfl⟩
    | exact ⟨_, h⟩
theorem vc_find {n : Nat} {k : Nat → Ent → NT} (h : VC E Q R (nfind n K k) tp) : ∃ i e tp', tget K i = some e ∧ e.nm = n ∧ VC E Q R (k i e) tp' := by
  unfold nfind at h
  cases tp <;> simp only [VC] at h
  rename_i i t
  cases hi : tget K i with
  | none => rw [hi] at h; exact h.elim
  | some e =>
    rw [hi] at h
    obtain ⟨m, b, w⟩ := e
    exact ⟨i, ⟨m, b, w⟩, t, hi, h.1, h.2⟩
theorem vc_new {b : Blk} {k : Nat → Tab → NT} (hK : TOK ro K S) (h : VC E Q R (nnew b K k) tp) : ∃ tp' K', TOK ro K' (S.new b) ∧ Step K S K' (S.new b) ∧ VC E Q R (k S.next K') tp' := by
  unfold nnew at h
  cases tp <;> simp only [VC] at h
  rename_i t
  obtain ⟨h1, h2⟩ := hK.new b true
  exact ⟨t S.next, _, h1, h2, h S.next⟩

theorem nload_sound {t : TypeId} {v : Value} {k : Value → NT} (hK : TOK ro K S) (h : VC E Q R (nload P t v K k) tp) : ∃ u tp', aload P S.h t v = some u ∧ VC E Q R (k u) tp' := by
  unfold nload at h
  split at h
  · rename_i b off
    obtain ⟨i, e, tp1, h1, rfl, h2⟩ := vc_find h
    have ha := (hK.at_ i e h1).1
    unfold aload
    simp only [ha]
    split at h2
    · rename_i fl el cs heq
      rw [heq]
      simp only
      split at h2
      · rename_i d hd
        simp only [hd]
        split at h2
        · rename_i hg
          obtain ⟨l, tp2, h3, h4⟩ := vc_oL h2
          rw [cellsF_eq] at h3
          simp only [hg, h3]
          exact ⟨_, tp2, rfl, h4⟩
        · rename_i hg
          obtain ⟨u, tp2, h3, h4⟩ := vc_oV h2
          simp only [hg, h3]
          exact ⟨u, tp2, rfl, h4⟩
      · exact h2.elim
    · exact h2.elim
  · exact h.elim

theorem nwrite_sound {b off : Nat} {vs : List Value} {k : Tab → NT} (hK : TOK ro K S) (h : VC E Q R (nwrite b off vs K k) tp) :
    ∃ S' K' tp', awrite ro S b off vs = some S' ∧ TOK ro K' S' ∧ Step K S K' S' ∧ VC E Q R (k K') tp' := by
  unfold nwrite at h
  split at h
  · exact ⟨S, K, tp, rfl, hK, Step.refl K S, h⟩
  · rename_i hne
    obtain ⟨i, ⟨m, bl, w⟩, tp1, h1, rfl, h2⟩ := vc_find h
    have ha := (hK.at_ i _ h1).1
    simp only at h2 ha
    split at h2
    · have hr : (Ent.mk m bl true).rw = true := rfl
      obtain ⟨b', tp2, h3, h4⟩ := vc_oB h2
      obtain ⟨h5, h6⟩ := hK.turn h1 hr b'
      refine ⟨_, _, tp2, ?_, h5, h6, h4⟩
      have hro : ro ≤ m := hK.rw_ i _ h1 hr
      unfold awrite
      split
      · exact (hne rfl).elim
      · simp only [ble_eq, hro, decide_true, cond_true, ha]
        unfold rowWrite at h3
        split at h3
        · rename_i fl el cs
          try simp only
          cases fl with
          | arg => cases h3
          | opn =>
            simp only at h3 ⊢
            cases hc : vs.all (·.oneCell') with
            | false => rw [hc] at h3; cases h3
            | true =>
              rw [hc] at h3
              simp only [cond_true] at h3
              split at h3
              · rename_i l hl
                obtain ⟨s1, rfl⟩ := splF_some hl
                simp only [Option.some.injEq] at h3
                simp only [s1, decide_true, Bool.and_self, cond_true, h3]
              · cases h3
          | cls =>
            simp only at h3 ⊢
            cases hc : vs.all (·.oneCell') with
            | false => rw [hc] at h3; cases h3
            | true =>
              rw [hc] at h3
              simp only [cond_true] at h3
              split at h3
              · rename_i l hl
                obtain ⟨s1, rfl⟩ := splF_some hl
                simp only [Option.some.injEq] at h3
                simp only [s1, decide_true, Bool.and_self, cond_true, h3]
              · cases h3
        · cases h3
    · exact h2.elim

theorem nstore_sound {t : TypeId} {a v : Value} {k : Tab → NT} (hK : TOK ro K S) (h : VC E Q R (nstore P t a v K k) tp) :
    ∃ S' K' tp', astore P ro S t a v = some S' ∧ TOK ro K' S' ∧ Step K S K' S' ∧ VC E Q R (k K') tp' := by
  unfold nstore at h
  split at h
  · rename_i b off
    split at h
    · rename_i i hi
      split at h
      · rename_i hs
        obtain ⟨S', K', tp', h1, h2, h3, h4⟩ := nwrite_sound hK h
        refine ⟨S', K', tp', ?_, h2, h3, h4⟩
        unfold astore
        simp only [hi, hs, cond_true, h1]
      · exact h.elim
    · exact h.elim
  · exact h.elim

theorem ncells_sound {size n : Nat} {x : Value} {k : List Value → NT} (hK : TOK ro K S) (h : VC E Q R (ncells size n x K k) tp) : ∃ l tp', acells S.h size n x = some l ∧ VC E Q R (k l) tp' := by
  unfold ncells at h
  split at h
  · exact ⟨[], tp, rfl, h⟩
  · rename_i b off _ _
    split at h
    · rename_i hb
      obtain ⟨h1, h2⟩ := vc_need h
      exact ⟨[], tp, by simp [acells, h1], h2⟩
    · rename_i hb
      obtain ⟨i, e, tp1, h1, rfl, h2⟩ := vc_find h
      have ha := (hK.at_ i e h1).1
      obtain ⟨l, tp2, h3, h4⟩ := vc_oL h2
      refine ⟨l, tp2, ?_, h4⟩
      unfold acells
      unfold rowCells at h3
      simp only [hb, ha, cond_false]
      split at h3
      · rename_i fl el cs heq
        rw [heq]
        simp only
        rw [cellsF_eq] at h3
        cases hz : Nat.beq (n * size) 0 with
        | false => exact h3
        | true =>
          have := Nat.eq_of_beq_eq_true hz
          rw [this] at h3
          unfold cellsAt at h3
          simp at h3
          simp [h3]
      · cases h3
  · exact ⟨_, tp, rfl, h⟩
  · exact h.elim

end
end Go.Ab

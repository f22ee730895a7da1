/-
  SYMBOLIC RUNS, part 9: words for contracts.
-/
import Derived.Test.YtccpckiiademmaaGreatDoorNr8
set_option linter.unusedSimpArgs false
set_option linter.unusedVariables false
namespace Go.Ab

/-- The name at a place. -/
def nmAt (K : Tab) (i : Nat) : Nat := match tget K i with
  | some e => e.nm
  | none => 0

/-- All that stood stands. -/
structure Keep (S S' : St) : Prop where
  le : S.next ≤ S'.next
  at_ : ∀ n b, At S n b → At S' n b

theorem Keep.refl (S : St) : Keep S S := ⟨Nat.le_refl _, fun _ _ h => h⟩
theorem Keep.trans {A B C : St} (h : Keep A B) (k : Keep B C) : Keep A C := ⟨Nat.le_trans h.le k.le, fun n b hn => k.at_ n b (h.at_ n b hn)⟩
theorem Delta.keep0 {S S' : St} {K' : Tab} (h : Delta [] S K' S') : Keep S S' := ⟨h.le, fun n b hn => h.keep n b hn (fun i e he => by simp [tget] at he)⟩
/-- No row of the table may be written. -/
def noRw (K : Tab) : Prop := ∀ i e, tget K i = some e → e.rw = false
theorem Delta.keepR {K : Tab} {S S' : St} {K' : Tab} (h : Delta K S K' S') (hK : noRw K) : Keep S S' := ⟨h.le, fun n b hn => h.keep n b hn (fun i e he hr => by rw [hK i e he] at hr; cases hr)⟩
theorem Delta.same {K : Tab} {S S' : St} (h : Keep S S') : Delta K S K S' := ⟨h.le, fun n b hn _ => h.at_ n b hn, fun i e he hr => .inl ⟨i, e, he, hr, rfl⟩⟩

theorem TOK.none {ro : Nat} {K : Tab} {S : St} (h : TOK ro K S) : TOK ro [] S := ⟨h.wf, fun i e he => by simp [tget] at he, fun i j e e' he => by simp [tget] at he, fun i e he => by simp [tget] at he, h.lo⟩
theorem TOK.keep {ro : Nat} {K : Tab} {S S' : St} (h : TOK ro K S) (k : Keep S S') (h' : TOK ro [] S') : TOK ro K S' := ⟨h'.wf, fun i e he => k.at_ _ _ (h.at_ i e he), h.inj, h.rw_, h'.lo⟩

/-- A contract that adds nothing that is told. -/
theorem Env.callSame {E : Env} {K : Tab} {S : St} {g : FuncId} {args : List Value} {v : Value} (hK : TOK E.ro K S) (h : ∃ S1, RCall E.P E.kn E.summ E.ro g args S v S1 ∧ Keep S S1 ∧ TOK E.ro [] S1) {p : Unit → Prop} (hp : p ()) :
    ∃ (a : Unit) (S1 : St), RCall E.P E.kn E.summ E.ro g args S v S1 ∧ TOK E.ro K S1 ∧ Delta K S K S1 ∧ p a := by
  obtain ⟨S1, h1, h2, h3⟩ := h
  exact ⟨(), S1, h1, hK.keep h2 h3, .same h2, hp⟩

theorem Env.lcallSame {E : Env} {S : St} {g : FuncId} {args : List Value} {v : Value} (h : ∃ S1, RCall E.P E.kn E.summ S.next g args S v S1 ∧ Keep S S1 ∧ TOK S.next [] S1) {p : Unit → Prop} (hp : p ()) :
    ∃ (a : Unit) (S1 : St), RCall E.P E.kn E.summ S.next g args S v S1 ∧ News S [] S1 ∧ p a := by
  obtain ⟨S1, h1, h2, h3⟩ := h
  exact ⟨(), S1, h1, ⟨h2.le, h3.wf, fun i e he => by simp [tget] at he, fun i j e e' he => by simp [tget] at he⟩, hp⟩

/-- Pure functions' summaries, one more. -/
def addP (g : FuncId) (p : List Value → Option Value) (ps : FuncId → Option (List Value → Option Value)) : FuncId → Option (List Value → Option Value) := fun h => cond (Nat.beq h g) (some p) (ps h)
theorem addP_ok {g : FuncId} {p : List Value → Option Value} {ps : FuncId → Option (List Value → Option Value)} {s : Summ} (h : ∀ g p, ps g = some p → s g = some (pureS p)) : ∀ h p', addP g p ps h = some p' → addS g (pureS p) s h = some (pureS p') := fun k p' hk => by
  unfold addP at hk
  unfold addS
  cases hb : Nat.beq k g with
  | true =>
    rw [hb] at hk
    simp only [cond_true, Option.some.injEq] at hk ⊢
    rw [hk]
  | false =>
    rw [hb] at hk
    exact h k p' hk

/-- A call, by its conditions as they are told. -/
theorem nfun_use {E : Env} {Q : AX → Fr → St → Prop} {R : Value → St → Prop} {n : Nat} {g : FuncId} {args : List Value} {tp : Tp} {nt : NT} {rhs : Prop} (hvc : VC E Q R nt tp = rhs) (hnt : nfun E.P E.kn E.ps n g args E.K0 = nt) (hE : E.OK) (hg : E.summ g = none) (hK : TOK E.ro E.K0 E.S0) (h : rhs) :
    ∃ v S', RCall E.P E.kn E.summ E.ro g args E.S0 v S' ∧ R v S' := by
  subst hnt
  exact nfun_sound hE hg hK (hvc.mpr h)
theorem ncode_use {E : Env} {Q : AX → Fr → St → Prop} {R : Value → St → Prop} {n : Nat} {c : Code} {f : Fr} {tp : Tp} {nt : NT} {rhs : Prop} (hvc : VC E Q R nt tp = rhs) (hnt : nrun E.P E.kn E.ps n c f E.K0 .done = nt) (hE : E.OK) (hK : TOK E.ro E.K0 E.S0) (h : rhs) :
    ∃ ex f' S', RRun E.P E.kn E.summ E.ro c f E.S0 ex f' S' ∧ Q ex f' S' := by
  subst hnt
  exact ncode_sound hE hK (hvc.mpr h)

/-- A run's end, as it is used for a whole call. -/
theorem rcall_acall {P : Program} {kn : Kn} {summ : Summ} {ro : Nat} {g : FuncId} {args : List Value} {S S' : St} {v : Value} (h : RCall P kn summ ro g args S v S') : ∃ m, acall P kn summ m ro g args S = some (v, S') := by
  obtain ⟨m, hm⟩ := h
  exact ⟨m, hm m (Nat.le_refl _)⟩

end Go.Ab

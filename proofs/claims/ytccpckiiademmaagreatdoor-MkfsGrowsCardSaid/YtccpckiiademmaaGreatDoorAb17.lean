/-
  ABSTRACT HEAPS, part 17: code; calls.
-/
import Derived.Test.YtccpckiiademmaaGreatDoorAb16
import Derived.LoopN
set_option linter.unusedSimpArgs false
namespace Go.Ab

inductive AX where
  | normal
  | exit (id : Nat)
  | ret

def AX.to : AX → Exit
  | .normal => .normal
  | .exit id => .exit id
  | .ret => .ret

abbrev ACode := Nat → Code → Fr → St → Option (AX × Fr × St)

def aloop (body : Fr → St → Option (AX × Fr × St)) : Nat → Fr → St → Option (AX × Fr × St)
  | 0, _, _ => none
  | k + 1, f, S =>
    match body f S with
    | some (.normal, f1, S1) => aloop body k f1 S1
    | r => r

def nrm (r : Option (Fr × St)) (c : Nat) : Option (AX × Fr × St) :=
  match r with
  | some (f, S) => cond (Nat.ble c S.next) (some (.normal, f, S)) none
  | none => none

def acodeStepS (P : Program) (okS : Kn) (call : ACall) (sf : ACode) (ro : Nat) (c : Code) (f : Fr) (S : St) : Option (AX × Fr × St) :=
  match c with
  | .skip => some (.normal, f, S)
  | .region _ ops draw => match draw with
    | true => nrm (adraw P okS call ro ops f S) S.next
    | false => nrm (aops P okS call ro ops ops.toList f S) S.next
  | .seq a b =>
    match sf ro a f S with
    | some (.normal, f1, S1) => sf ro b f1 S1
    | r => r
  | .cond x a b =>
    match aval f x with
    | some (.bool true) => sf ro a f S
    | some (.bool false) => sf ro b f S
    | _ => none
  | .block id b =>
    match sf ro b f S with
    | some (.exit i, f1, S1) => cond (Nat.beq i id) (some (.normal, f1, S1)) (some (.exit i, f1, S1))
    | r => r
  | .loop b => aloop (sf ro b) 1000000 f S
  | .exit id => some (.exit id, f, S)
  | .ret => some (.ret, f, S)
  | _ => none

def cRegion (P : Program) (okS : Kn) (call : ACall) (ro : Nat) (ops : Array Oper) (draw : Bool) (f : Fr) (S : St) : Option (AX × Fr × St) :=
  match draw with
  | true => nrm (adraw P okS call ro ops f S) S.next
  | false => nrm (aops P okS call ro ops ops.toList f S) S.next
def cSeq (sf : ACode) (ro : Nat) (a b : Code) (f : Fr) (S : St) : Option (AX × Fr × St) :=
  match sf ro a f S with
  | some (.normal, f1, S1) => sf ro b f1 S1
  | r => r
def cCond (sf : ACode) (ro : Nat) (x : Operand) (a b : Code) (f : Fr) (S : St) : Option (AX × Fr × St) :=
  match aval f x with
  | some (.bool true) => sf ro a f S
  | some (.bool false) => sf ro b f S
  | _ => none
def cBlock (sf : ACode) (ro : Nat) (id : Nat) (b : Code) (f : Fr) (S : St) : Option (AX × Fr × St) :=
  match sf ro b f S with
  | some (.exit i, f1, S1) => cond (Nat.beq i id) (some (.normal, f1, S1)) (some (.exit i, f1, S1))
  | r => r

def acodeStep (P : Program) (okS : Kn) (call : ACall) (sf : ACode) (ro : Nat) (c : Code) (f : Fr) (S : St) : Option (AX × Fr × St) :=
  match c with
  | .skip => some (.normal, f, S)
  | .region _ ops draw => cRegion P okS call ro ops draw f S
  | .seq a b => cSeq sf ro a b f S
  | .cond x a b => cCond sf ro x a b f S
  | .block id b => cBlock sf ro id b f S
  | .loop b => aloop (sf ro b) 1000000 f S
  | .exit id => some (.exit id, f, S)
  | .ret => some (.ret, f, S)
  | _ => none

theorem acodeStep_eq (P : Program) (okS : Kn) (call : ACall) (sf : ACode) (ro : Nat) (c : Code) (f : Fr) (S : St) : acodeStep P okS call sf ro c f S = acodeStepS P okS call sf ro c f S := by
  cases c <;> rfl

def aresults (P : Program) (f : Fr) (S : St) : List ResultVar → Option (List Value)
  | [] => some []
  | .tmp t :: r => match aresults P f S r with
    | some vs => some (f.get t :: vs)
    | none => none
  | .cell p t :: r => match aload P S.h t (f.get p) with
    | some v => match aresults P f S r with
      | some vs => some (v :: vs)
      | none => none
    | none => none

def oneOf (vs : List Value) : Value :=
  match vs with
  | [v] => v
  | _ => .tuple vs.toArray

abbrev Summ := FuncId → Option (Nat → List Value → St → Option (Value × St))

def acallWith (P : Program) (summ : Summ) (sf : ACode) : ACall := fun ro g args S =>
  match summ g with
  | some s => s ro args S
  | none =>
    match P.funcs[g]? with
    | some fn =>
      match fn.body with
      | some c =>
        match sf ro c ⟨args.length + (fn.ntmps - args.length), fun i => args.getD i undef⟩ S with
        | some (.exit _, _, _) => none
        | some (_, f1, S1) => match aresults P f1 S1 fn.results.toList with
          | some vs => some (oneOf vs, S1)
          | none => none
        | none => none
      | none => none
    | none => none

def arun (P : Program) (okS : Kn) (summ : Summ) : Nat → ACode
  | 0 => fun _ _ _ _ => none
  | n + 1 => acodeStep P okS (acallWith P summ (arun P okS summ n)) (arun P okS summ n)

/-- A call, so deep. -/
def acall (P : Program) (okS : Kn) (summ : Summ) (n : Nat) : ACall := acallWith P summ (arun P okS summ n)

/-! ### soundness -/

def CPost (P : Program) (ro : Nat) (ρ : Rn) (S : St) (a : Act) (w : World) (ex : AX) (f' : Fr) (S' : St) : Exit → Act → World → Prop :=
  fun e a' w' => e = ex.to ∧ ∃ ρ', Ext ρ ρ' ∧ Post P ro ρ S.h.get S.next w ρ' S'.h.get S'.next w' ∧ TR ρ' a'.tmps f' ∧ a'.defers = a.defers

structure CodeOK (P : Program) (sf : ACode) : Prop where
  le : ∀ ro c f S ex f' S', sf ro c f S = some (ex, f', S') → S.next ≤ S'.next
  wp : ∀ ro c f S ex f' S', sf ro c f S = some (ex, f', S') → WF S → ∀ ρ a w, WR P ρ w S.h.get → TR ρ a.tmps f → ro ≤ S.next → FreeOn ρ S.next S'.next →
    c.wp P (CPost P ro ρ S a w ex f' S') a w

theorem aops_sound' {P : Program} {okS : Kn} {call : ACall} (hP : ProgOK P okS) (hC : CallOK' P call) {ro : Nat} {ops : Array Oper} {Q : Exit → Act → World → Prop} : ∀ {l : List Oper} {is : List Nat} (_ : is.map (ops[·]?) = l.map some) {f f' : Fr} {S S' : St} {ρ : Rn} {a : Act} {w : World},
    aops P okS call ro ops l f S = some (f', S') → WF S → WR P ρ w S.h.get → TR ρ a.tmps f → ro ≤ S.next → FreeOn ρ S.next S'.next →
    (∀ a' w' ρ', Ext ρ ρ' → Post P ro ρ S.h.get S.next w ρ' S'.h.get S'.next w' → TR ρ' a'.tmps f' → a'.defers = a.defers → Q .normal a' w') → wpOps P ops Q is a w
  | [], is, hi, f, f', S, S', ρ, a, w, h, hwf, hw, ht, hro, hf, hQ => by
    have : is = [] := by simpa using hi
    subst this
    simp only [aops, Option.some.injEq, Prod.mk.injEq] at h
    obtain ⟨rfl, rfl⟩ := h
    exact hQ a w ρ (Ext.refl ρ) (.refl hw) ht rfl
  | o :: rest, [], hi, f, f', S, S', ρ, a, w, h, hwf, hw, ht, hro, hf, hQ => by simp at hi
  | o :: rest, i :: is, hi, f, f', S, S', ρ, a, w, h, hwf, hw, ht, hro, hf, hQ => by
    simp only [List.map_cons, List.cons.injEq] at hi
    obtain ⟨ho, hi⟩ := hi
    simp only [wpOps, ho]
    rw [awanted_eq ht]
    simp only [aops] at h
    cases hwn : awanted ops o f with
    | false =>
      rw [hwn] at h
      simp only [Bool.false_eq_true, if_false]
      exact aops_sound' hP hC hi h hwf hw (ht.put o.dst (.undef ρ)) hro hf (fun a' w' ρ' h0 h1 h2 h3 => hQ a' w' ρ' h0 h1 h2 (by rw [h3]; cases o.dst <;> rfl))
    | true =>
      rw [hwn] at h
      simp only [cond_true] at h
      simp only [if_true]
      left
      split at h
      · rename_i v S1 hs
        rw [ble_eq] at h
        by_cases hl : S.next ≤ S1.next
        · simp only [hl, decide_true, cond_true] at h
          have hle := aops_le h
          refine astep_sound' hP hC hw ht hro hwf (hf.sub (Nat.le_refl _) hle) hs ?_
          intro cv w1 ρ1 h1 h2
          have hx := h1.ext (hf.sub (Nat.le_refl _) hle)
          exact aops_sound' hP hC hi h (h1.wf hwf) h1.wr ((ht.mono hx).put o.dst h2) (by omega) (hf.later h1) (fun a' w' ρ' h0 h3 h4 h5 => hQ a' w' ρ' (hx.trans h0) (h1.trans h3) h4 (by rw [h5]; cases o.dst <;> rfl))
        · simp [hl] at h
      · cases h

theorem nrm_some {r : Option (Fr × St)} {c : Nat} {ex : AX} {f : Fr} {S : St} (h : nrm r c = some (ex, f, S)) : r = some (f, S) ∧ ex = .normal ∧ c ≤ S.next := by
  unfold nrm at h
  split at h
  · rename_i f0 S0
    rw [ble_eq] at h
    by_cases hl : c ≤ S0.next
    · simp only [hl, decide_true, cond_true, Option.some.injEq, Prod.mk.injEq] at h
      obtain ⟨rfl, rfl, rfl⟩ := h
      exact ⟨rfl, rfl, hl⟩
    · simp [hl] at h
  · cases h

theorem aloop_le {body : Fr → St → Option (AX × Fr × St)} (hb : ∀ f S ex f' S', body f S = some (ex, f', S') → S.next ≤ S'.next) : ∀ (k : Nat) (f : Fr) (S : St) (ex : AX) (f' : Fr) (S' : St), aloop body k f S = some (ex, f', S') → S.next ≤ S'.next
  | 0, f, S, ex, f', S', h => by simp [aloop] at h
  | k + 1, f, S, ex, f', S', h => by
    simp only [aloop] at h
    split at h
    · rename_i f1 S1 hr
      exact Nat.le_trans (hb _ _ _ _ _ hr) (aloop_le hb k _ _ _ _ _ h)
    · exact hb _ _ _ _ _ h

/-- An exit that isn't the normal one goes by. -/
theorem then_of_ne {K : Act → World → Prop} {Q : Exit → Act → World → Prop} {e : Exit} {a : Act} {w : World} (hne : e ≠ .normal) (h : Q e a w) : Exit.then K Q e a w := by
  cases e <;> first | exact absurd rfl hne | exact h

theorem CPost.trans {P : Program} {ro : Nat} {ρ ρ1 : Rn} {S S1 S' : St} {a a1 : Act} {w w1 : World} {ex : AX} {f' : Fr} (hx : Ext ρ ρ1) (hp : Post P ro ρ S.h.get S.next w ρ1 S1.h.get S1.next w1) (hd : a1.defers = a.defers) {e : Exit} {a' : Act} {w' : World}
    (h : CPost P ro ρ1 S1 a1 w1 ex f' S' e a' w') : CPost P ro ρ S a w ex f' S' e a' w' := by
  obtain ⟨he, ρ', h1, h2, h3, h4⟩ := h
  exact ⟨he, ρ', hx.trans h1, hp.trans h2, h3, h4.trans hd⟩

theorem aloop_sound {P : Program} {sf : ACode} (hS : CodeOK P sf) {ro : Nat} {c : Code} : ∀ (k : Nat) {f : Fr} {S : St} {ex : AX} {f' : Fr} {S' : St}, aloop (sf ro c) k f S = some (ex, f', S') → WF S → ∀ {ρ : Rn} {a : Act} {w : World}, WR P ρ w S.h.get → TR ρ a.tmps f → ro ≤ S.next → FreeOn ρ S.next S'.next →
    Code.rounds P c (CPost P ro ρ S a w ex f' S') k a w ∧ ex ≠ .normal
  | 0, f, S, ex, f', S', h, _, _, _, _, _, _, _, _ => by simp [aloop] at h
  | k + 1, f, S, ex, f', S', h, hwf, ρ, a, w, hw, ht, hro, hf => by
    simp only [aloop] at h
    split at h
    · rename_i f1 S1 hr
      have hle1 := hS.le _ _ _ _ _ _ _ hr
      have hle2 := aloop_le (fun f S ex f' S' h => hS.le ro c f S ex f' S' h) k _ _ _ _ _ h
      have hne : ex ≠ .normal := by
        have aux : ∀ (k : Nat) (f : Fr) (S : St), aloop (sf ro c) k f S = some (ex, f', S') → ex ≠ .normal := by
          intro k
          induction k with
          | zero => intro f S h; simp [aloop] at h
          | succ k ih =>
            intro f S h
            simp only [aloop] at h
            split at h
            · exact ih _ _ h
            · rename_i hne
              intro e
              subst e
              exact hne _ _ h
        exact aux k _ _ h
      refine ⟨?_, hne⟩
      rw [rounds_succ]
      refine wp_mono (hS.wp _ _ _ _ _ _ _ hr hwf ρ a w hw ht hro (hf.sub (Nat.le_refl _) hle2)) ?_
      rintro e a1 w1 ⟨rfl, ρ1, h1, h2, h3, h4⟩
      show Code.rounds P c _ k a1 w1
      have := (aloop_sound hS k h (h2.wf hwf) h2.wr h3 (by omega) (hf.later h2)).1
      refine rounds_mono ?_ this
      intro e a' w' h5
      exact h5.trans h1 h2 h4
    · rename_i hne
      have hne' : ex ≠ .normal := fun e => by subst e; exact hne _ _ h
      refine ⟨?_, hne'⟩
      rw [rounds_succ]
      refine wp_mono (hS.wp _ _ _ _ _ _ _ h hwf ρ a w hw ht hro hf) ?_
      rintro e a1 w1 hp
      obtain ⟨rfl, _⟩ := id hp
      exact then_of_ne (by cases ex <;> first | exact absurd rfl hne' | (intro e; cases e)) hp
where
  rounds_mono {P : Program} {c : Code} {Q Q' : Exit → Act → World → Prop} (hq : ∀ e a w, Q e a w → Q' e a w) : ∀ {k : Nat} {a : Act} {w : World}, Code.rounds P c Q k a w → Code.rounds P c Q' k a w
    | 0, _, _, h => h.elim
    | k + 1, a, w, h => by
      rw [rounds_succ] at h ⊢
      refine wp_mono h ?_
      intro e a1 w1 h1
      cases e with
      | normal => exact rounds_mono hq h1
      | _ => exact hq _ _ _ h1

theorem acodeStep_ok {P : Program} {okS : Kn} {call : ACall} {sf : ACode} (hP : ProgOK P okS) (hC : CallOK' P call) (hS : CodeOK P sf) : CodeOK P (acodeStep P okS call sf) := by
  constructor
  · intro ro c f S ex f' S' h
    rw [acodeStep_eq] at h
    unfold acodeStepS at h
    split at h
    · simp only [Option.some.injEq, Prod.mk.injEq] at h; rw [h.2.2]; exact Nat.le_refl _
    · split at h
      · exact (nrm_some h).2.2
      · exact (nrm_some h).2.2
    · split at h
      · rename_i f1 S1 hr
        exact Nat.le_trans (hS.le _ _ _ _ _ _ _ hr) (hS.le _ _ _ _ _ _ _ h)
      · exact hS.le _ _ _ _ _ _ _ h
    · split at h
      · exact hS.le _ _ _ _ _ _ _ h
      · exact hS.le _ _ _ _ _ _ _ h
      · cases h
    · split at h
      · rename_i i f1 S1 hr
        rw [cond_beq] at h
        have := hS.le _ _ _ _ _ _ _ hr
        split at h <;> (simp only [Option.some.injEq, Prod.mk.injEq] at h; rw [← h.2.2]; exact this)
      · exact hS.le _ _ _ _ _ _ _ h
    · exact aloop_le (fun f S ex f' S' h => hS.le ro _ f S ex f' S' h) _ _ _ _ _ _ h
    · simp only [Option.some.injEq, Prod.mk.injEq] at h; rw [h.2.2]; exact Nat.le_refl _
    · simp only [Option.some.injEq, Prod.mk.injEq] at h; rw [h.2.2]; exact Nat.le_refl _
    · cases h
  · intro ro c f S ex f' S' h hwf ρ a w hw ht hro hf
    rw [acodeStep_eq] at h
    unfold acodeStepS at h
    split at h
    · simp only [Option.some.injEq, Prod.mk.injEq] at h
      obtain ⟨rfl, rfl, rfl⟩ := h
      exact wp_skip ⟨rfl, ρ, Ext.refl ρ, .refl hw, ht, rfl⟩
    · rename_i id ops draw
      split at h
      · -- drawn
        obtain ⟨h1, rfl, _⟩ := nrm_some h
        refine wp_region_any hP.mixed ?_
        have hw' : WR P ρ { w with drawn := w.drawn + 1 } S.h.get := hw.of_heap (fun _ _ _ _ _ => rfl)
        refine (adraw_sound (a := a) hP hC h1 hw' ht hwf hro hf ?_).2
        intro a' w' ρ' hx hp ht' hd
        exact ⟨rfl, ρ', hx, ⟨hp.le, hp.dom, hp.wr, hp.os, hp.tape, hp.output, hp.size, hp.frame, hp.fresh, hp.live, hp.keep⟩, ht', hd⟩
      · obtain ⟨h1, rfl, _⟩ := nrm_some h
        refine wp_region ?_
        refine aops_sound' (l := ops.toList) hP hC ?_ h1 hwf hw ht hro hf ?_
        · apply List.ext_getElem?
          intro i
          simp only [List.getElem?_map, List.getElem?_range']
          by_cases hi : i < ops.size
          · simp [List.getElem?_range hi, hi]
          · simp [hi]
        · intro a' w' ρ' hx hp ht' hd
          exact ⟨rfl, ρ', hx, hp, ht', hd⟩
    · -- seq
      refine wp_seq ?_
      split at h
      · rename_i f1 S1 hr
        have hle := hS.le _ _ _ _ _ _ _ h
        refine wp_mono (hS.wp _ _ _ _ _ _ _ hr hwf ρ a w hw ht hro (hf.sub (Nat.le_refl _) hle)) ?_
        rintro e a1 w1 ⟨rfl, ρ1, h1, h2, h3, h4⟩
        have hle1 := hS.le _ _ _ _ _ _ _ hr
        refine wp_mono (hS.wp _ _ _ _ _ _ _ h (h2.wf hwf) ρ1 a1 w1 h2.wr h3 (by omega) (hf.later h2)) ?_
        intro e a2 w2 h5
        exact h5.trans h1 h2 h4
      · rename_i hne
        refine wp_mono (hS.wp _ _ _ _ _ _ _ h hwf ρ a w hw ht hro hf) ?_
        intro e a1 w1 hp
        obtain ⟨rfl, _⟩ := id hp
        exact then_of_ne (by cases ex <;> first | exact absurd h (hne _ _) | (intro e; cases e)) hp
    · -- cond
      rename_i x c1 c2
      split at h
      · rename_i hx
        have hv := aval_sound hw ht hx
        generalize he : a.eval x = ev at hv
        cases hv
        exact wp_cond_true he (hS.wp _ _ _ _ _ _ _ h hwf ρ a w hw ht hro hf)
      · rename_i hx
        have hv := aval_sound hw ht hx
        generalize he : a.eval x = ev at hv
        cases hv
        exact wp_cond_false he (hS.wp _ _ _ _ _ _ _ h hwf ρ a w hw ht hro hf)
      · cases h
    · -- block
      rename_i id b
      refine wp_block ?_
      split at h
      · rename_i i f1 S1 hr
        rw [cond_beq] at h
        by_cases hid : i = id
        · rw [if_pos hid] at h
          simp only [Option.some.injEq, Prod.mk.injEq] at h
          obtain ⟨rfl, rfl, rfl⟩ := h
          refine wp_mono (hS.wp _ _ _ _ _ _ _ hr hwf ρ a w hw ht hro hf) ?_
          rintro e a1 w1 ⟨rfl, h1⟩
          show (if i = id then _ else _)
          rw [if_pos hid]
          exact ⟨rfl, h1⟩
        · rw [if_neg hid] at h
          simp only [Option.some.injEq, Prod.mk.injEq] at h
          obtain ⟨rfl, rfl, rfl⟩ := h
          refine wp_mono (hS.wp _ _ _ _ _ _ _ hr hwf ρ a w hw ht hro hf) ?_
          rintro e a1 w1 ⟨rfl, h1⟩
          show (if i = id then _ else _)
          rw [if_neg hid]
          exact ⟨rfl, h1⟩
      · rename_i hne
        refine wp_mono (hS.wp _ _ _ _ _ _ _ h hwf ρ a w hw ht hro hf) ?_
        rintro e a1 w1 ⟨rfl, h1⟩
        cases ex with
        | exit i => exact absurd h (hne _ _ _)
        | normal => exact ⟨rfl, h1⟩
        | ret => exact ⟨rfl, h1⟩
    · -- loop
      exact wp_loop_rounds _ (aloop_sound hS _ h hwf hw ht hro hf).1
    · simp only [Option.some.injEq, Prod.mk.injEq] at h
      obtain ⟨rfl, rfl, rfl⟩ := h
      exact wp_exit ⟨rfl, ρ, Ext.refl ρ, .refl hw, ht, rfl⟩
    · simp only [Option.some.injEq, Prod.mk.injEq] at h
      obtain ⟨rfl, rfl, rfl⟩ := h
      exact wp_ret ⟨rfl, ρ, Ext.refl ρ, .refl hw, ht, rfl⟩
    · cases h

def res1 (tmps : Array Value) : ResultVar → Sem Value
  | .tmp t => pure (tmps.getD t undef)
  | .cell p t => do loadVar t (← asAddr (tmps.getD p undef))

theorem aresults_sound {P : Program} {ρ : Rn} {w : World} {S : St} {f : Fr} {a : Act} (hw : WR P ρ w S.h.get) (ht : TR ρ a.tmps f) : ∀ {rs : List ResultVar} {us : List Value}, aresults P f S rs = some us →
    ∃ vs, (rs.mapM (res1 a.tmps)).run P w = .ok vs w ∧ VRl ρ vs us
  | [], us, h => by simp only [aresults, Option.some.injEq] at h; subst h; exact ⟨[], by simp, .nil ρ⟩
  | .tmp t :: r, us, h => by
    simp only [aresults] at h
    split at h
    · rename_i vs hvs
      simp only [Option.some.injEq] at h
      subst h
      obtain ⟨ws, h1, h2⟩ := aresults_sound hw ht hvs
      refine ⟨a.tmps.getD t undef :: ws, ?_, .cons (ht.2 t) h2⟩
      have h3 : (res1 a.tmps (.tmp t)).run P w = .ok (a.tmps.getD t undef) w := rfl
      rw [List.mapM_cons, Sem.run_bind, h3, Result.andThen_ok, Sem.run_bind, h1]
      rfl
    · cases h
  | .cell p t :: r, us, h => by
    simp only [aresults] at h
    split at h
    · rename_i v hv
      split at h
      · rename_i vs hvs
        simp only [Option.some.injEq] at h
        subst h
        obtain ⟨ws, h1, h2⟩ := aresults_sound hw ht hvs
        obtain ⟨y, h3, h4⟩ := aload_sound hw (ht.2 p) hv
        refine ⟨y :: ws, ?_, .cons h4 h2⟩
        have hp := ht.2 p
        have h3' : (res1 a.tmps (.cell p t)).run P w = .ok y w := by
          show (do loadVar t (← asAddr (a.tmps.getD p undef)) : Sem Value).run P w = .ok y w
          generalize a.tmps.getD p undef = x at hp h3 ⊢
          unfold aload at hv
          split at hv
          · rename_i b off heq
            rw [heq] at hp
            cases hp
            exact h3
          · cases hv
        rw [List.mapM_cons, Sem.run_bind, h3', Result.andThen_ok, Sem.run_bind, h1]
        rfl
      · cases h
    · cases h

theorem results_eq {fn : Func} {tmps : Array Value} : results fn tmps = (do
    let vs ← fn.results.mapM (res1 tmps)
    pure (if h : vs.size = 1 then vs[0] else .tuple vs)) := by
  unfold results
  congr 1

theorem results_run {P : Program} {fn : Func} {tmps : Array Value} {w : World} {vs : List Value}
    (h : (fn.results.toList.mapM (res1 tmps)).run P w = .ok vs w) : (results fn tmps).run P w = .ok (oneOf vs) w := by
  rw [results_eq, Array.mapM_eq_mapM_toList, Sem.run_bind, Sem.run_map, h]
  match vs with
  | [] => rfl
  | [v] => rfl
  | v :: u :: r => rfl

def SummOK (P : Program) (summ : Summ) : Prop :=
  ∀ g s, summ g = some s → ∀ (ro : Nat) (args : List Value) (S : St) (v : Value) (S' : St), s ro args S = some (v, S') → WF S →
    ∀ (ρ : Rn) (w : World) (cargs : Array Value), WR P ρ w S.h.get → VRl ρ cargs.toList args → FreeOn ρ S.next S'.next → ro ≤ S.next →
      Calls P g cargs w fun e w' => ∃ cv ρ', e = .returned cv ∧ Post P ro ρ S.h.get S.next w ρ' S'.h.get S'.next w' ∧ VR ρ' cv v

theorem acallWith_ok {P : Program} {summ : Summ} {sf : ACode} (hS : CodeOK P sf) (hsm : SummOK P summ) : CallOK' P (acallWith P summ sf) := by
  intro ro g args S v S' h hwf ρ w cargs hw hargs hf hro
  unfold acallWith at h
  split at h
  · rename_i s hs
    exact hsm g s hs ro args S v S' h hwf ρ w cargs hw hargs hf hro
  · split at h
    · rename_i fn hfn
      split at h
      · rename_i c hb
        split at h
        · cases h
        · rename_i ex f1 S1 hnx hr
          split at h
          · rename_i us hus
            simp only [Option.some.injEq, Prod.mk.injEq] at h
            obtain ⟨rfl, rfl⟩ := h
            refine calls_of_wp hfn hb ?_
            have hlen : cargs.size = args.length := by have := hargs.1; simpa using this
            have ht : TR ρ (cargs ++ Array.replicate (fn.ntmps - cargs.size) undef) ⟨args.length + (fn.ntmps - args.length), fun i => args.getD i undef⟩ := by
              refine ⟨by simp [hlen], fun i => ?_⟩
              simp only [Fr.get]
              by_cases hi : i < args.length
              · skip
                have h1 := hargs.getD i
                rw [List.getD_eq_getElem?_getD, List.getD_eq_getElem?_getD] at h1
                have e1 : (cargs ++ Array.replicate (fn.ntmps - cargs.size) undef).getD i undef = cargs.toList[i]?.getD undef := by
                  rw [Array.getD_eq_getD_getElem?, Array.getElem?_append_left (by omega)]; simp
                rw [e1]; exact h1
              · have e0 : args.getD i undef = undef := by rw [List.getD_eq_getElem?_getD, List.getElem?_eq_none (by omega)]; rfl
                rw [e0]
                have e1 : (cargs ++ Array.replicate (fn.ntmps - cargs.size) undef).getD i undef = undef := by
                  rw [Array.getD_eq_getD_getElem?, Array.getElem?_append_right (by omega), Array.getElem?_replicate]
                  split <;> rfl
                rw [e1]; exact .undef ρ
            refine wp_mono (hS.wp _ _ _ _ _ _ _ hr hwf ρ { tmps := cargs ++ Array.replicate (fn.ntmps - cargs.size) undef, defers := [] } w hw ht hro hf) ?_
            rintro e a' w' ⟨rfl, ρ', h1, h2, h3, h4⟩
            obtain ⟨vs, h5, h6⟩ := aresults_sound h2.wr h3 hus
            have h7 := results_run (fn := fn) h5
            have h8 : VR ρ' (oneOf vs) (oneOf us) := by
              match vs, us, h6 with
              | [], [], h => exact .undef ρ'
              | [v], [u], h => have := h.getD 0; simpa [oneOf] using this
              | v :: v2 :: vr, u :: u2 :: ur, h => exact .tuple _ _ h.toArray.1 h.toArray.2
              | [], _ :: _, h => have := h.1; simp at this
              | [_], [], h => have := h.1; simp at this
              | [_], _ :: _ :: _, h => have := h.1; simp at this
              | _ :: _ :: _, [], h => have := h.1; simp at this
              | _ :: _ :: _, [_], h => have := h.1; simp at this
            cases ex with
            | exit i => exact (hnx _ rfl).elim
            | normal => exact ⟨h4, oneOf vs, h7, oneOf vs, ρ', rfl, h2, h8⟩
            | ret => exact ⟨h4, oneOf vs, h7, oneOf vs, ρ', rfl, h2, h8⟩
          · cases h
        · cases h
      · cases h
    · cases h

theorem arun_ok {P : Program} {okS : Kn} {summ : Summ} (hP : ProgOK P okS) (hsm : SummOK P summ) : ∀ n, CodeOK P (arun P okS summ n)
  | 0 => ⟨fun _ _ _ _ _ _ _ h => (by cases h), fun _ _ _ _ _ _ _ h => (by cases h)⟩
  | n + 1 => acodeStep_ok hP (acallWith_ok (arun_ok hP hsm n) hsm) (arun_ok hP hsm n)

/-- WHAT THE ABSTRACT CALL SAYS, THE CALL DOES. -/
theorem acall_ok {P : Program} {okS : Kn} {summ : Summ} (hP : ProgOK P okS) (hsm : SummOK P summ) (n : Nat) : CallOK' P (acall P okS summ n) := acallWith_ok (arun_ok hP hsm n) hsm

end Go.Ab

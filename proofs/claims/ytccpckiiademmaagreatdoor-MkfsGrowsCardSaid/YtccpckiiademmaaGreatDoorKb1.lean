/-
  ABSTRACT HEAPS: the same runs in continuation style: conditions that aren't known are lifted.
-/
import Derived.Test.YtccpckiiademmaaGreatDoorAb18
set_option linter.unusedSimpArgs false
set_option linter.unusedVariables false
namespace Go.Ab

section
variable {R : Type}

/-- A bool is parted. -/
def splitV (v : Value) (k : Value → R) : R :=
  match v with
  | .bool b => cond b (k (.bool true)) (k (.bool false))
  | v => k v

theorem splitV_eq (v : Value) (k : Value → R) : splitV v k = k v := by
  unfold splitV
  split
  · rename_i b; cases b <;> rfl
  · rfl

variable (P : Program) (okS : Kn)

def kops (call : ACall) (ro : Nat) (ops : Array Oper) : List Oper → Fr → St → (Option (Fr × St) → R) → R
  | [], f, S, k => k (some (f, S))
  | o :: rest, f, S, k =>
    match awanted ops o f with
    | true => match astep P okS call ro f S o with
      | some (v, S') => match Nat.ble S.next S'.next with
        | true => splitV v fun u => kops call ro ops rest (f.put o.dst u) S' k
        | false => k none
      | none => k none
    | false => kops call ro ops rest (f.put o.dst undef) S k

theorem kops_eq (call : ACall) (ro : Nat) (ops : Array Oper) : ∀ (l : List Oper) (f : Fr) (S : St) (k : Option (Fr × St) → R), kops P okS call ro ops l f S k = k (aops P okS call ro ops l f S)
  | [], f, S, k => rfl
  | o :: rest, f, S, k => by
    simp only [kops, aops]
    cases awanted ops o f with
    | false => exact kops_eq call ro ops rest _ _ _
    | true =>
      simp only [cond_true]
      cases astep P okS call ro f S o with
      | none => rfl
      | some p =>
        obtain ⟨v, S'⟩ := p
        simp only
        cases Nat.ble S.next S'.next with
        | false => rfl
        | true =>
          simp only [cond_true]
          rw [splitV_eq]
          exact kops_eq call ro ops rest _ _ _

def kdrawGo (call : ACall) (ro : Nat) (ops : Array Oper) (masks : List Nat) : List Oper → Fr → St → List Rec → (Option (Fr × St) → R) → R
  | [], f, S, _, k => k (some (f, S))
  | o :: rest, f, S, prev, k =>
    match mkRec P okS call ro ops masks f S prev o with
    | some r => splitV r.v fun u => kdrawGo call ro ops masks rest (f.put o.dst u) r.S' (prev ++ [{ r with v := u }]) k
    | none => k none

theorem kdrawGo_eq (call : ACall) (ro : Nat) (ops : Array Oper) (masks : List Nat) : ∀ (l : List Oper) (f : Fr) (S : St) (prev : List Rec) (k : Option (Fr × St) → R), kdrawGo P okS call ro ops masks l f S prev k = k (adrawGo P okS call ro ops masks l f S prev)
  | [], f, S, prev, k => rfl
  | o :: rest, f, S, prev, k => by
    simp only [kdrawGo, adrawGo]
    cases mkRec P okS call ro ops masks f S prev o with
    | none => rfl
    | some r =>
      simp only
      rw [splitV_eq]
      exact kdrawGo_eq call ro ops masks rest _ _ _ _

def kdraw (call : ACall) (ro : Nat) (ops : Array Oper) (f : Fr) (S : St) (k : Option (Fr × St) → R) : R :=
  match Region.noSelect ops with
  | true => kdrawGo P okS call ro ops (masksGo ops.toList []) ops.toList f S [] k
  | false => k none

theorem kdraw_eq (call : ACall) (ro : Nat) (ops : Array Oper) (f : Fr) (S : St) (k : Option (Fr × St) → R) : kdraw P okS call ro ops f S k = k (adraw P okS call ro ops f S) := by
  unfold kdraw adraw
  cases Region.noSelect ops with
  | true => exact kdrawGo_eq P okS call ro ops _ _ _ _ _ _
  | false => rfl

abbrev KCode (R : Type) := Nat → Code → Fr → St → (Option (AX × Fr × St) → R) → R

def kloop (body : Fr → St → (Option (AX × Fr × St) → R) → R) : Nat → Fr → St → (Option (AX × Fr × St) → R) → R
  | 0, _, _, k => k none
  | n + 1, f, S, k => body f S fun r => match r with
    | some (.normal, f1, S1) => kloop body n f1 S1 k
    | r => k r

theorem kloop_eq {body : Fr → St → (Option (AX × Fr × St) → R) → R} {b : Fr → St → Option (AX × Fr × St)} (hb : ∀ f S k, body f S k = k (b f S)) : ∀ (n : Nat) (f : Fr) (S : St) (k : Option (AX × Fr × St) → R), kloop body n f S k = k (aloop b n f S)
  | 0, f, S, k => rfl
  | n + 1, f, S, k => by
    simp only [kloop, aloop, hb]
    cases b f S with
    | none => rfl
    | some p =>
      obtain ⟨ex, f1, S1⟩ := p
      cases ex with
      | normal => exact kloop_eq hb n f1 S1 k
      | exit i => rfl
      | ret => rfl

def kSeq (sf : KCode R) (ro : Nat) (a b : Code) (f : Fr) (S : St) (k : Option (AX × Fr × St) → R) : R :=
  sf ro a f S fun r => match r with
  | some (.normal, f1, S1) => sf ro b f1 S1 k
  | r => k r
def kCond (sf : KCode R) (ro : Nat) (x : Operand) (a b : Code) (f : Fr) (S : St) (k : Option (AX × Fr × St) → R) : R :=
  match aval f x with
  | some (.bool c) => cond c (sf ro a f S k) (sf ro b f S k)
  | _ => k none
def kBlock (sf : KCode R) (ro : Nat) (id : Nat) (b : Code) (f : Fr) (S : St) (k : Option (AX × Fr × St) → R) : R :=
  sf ro b f S fun r => match r with
  | some (.exit i, f1, S1) => cond (Nat.beq i id) (k (some (.normal, f1, S1))) (k (some (.exit i, f1, S1)))
  | r => k r
def kRegion (call : ACall) (ro : Nat) (ops : Array Oper) (draw : Bool) (f : Fr) (S : St) (k : Option (AX × Fr × St) → R) : R :=
  match draw with
  | true => kdraw P okS call ro ops f S fun r => k (nrm r S.next)
  | false => kops P okS call ro ops ops.toList f S fun r => k (nrm r S.next)

def kcodeStep (call : ACall) (sf : KCode R) (ro : Nat) (c : Code) (f : Fr) (S : St) (k : Option (AX × Fr × St) → R) : R :=
  match c with
  | .skip => k (some (.normal, f, S))
  | .region _ ops draw => kRegion P okS call ro ops draw f S k
  | .seq a b => kSeq sf ro a b f S k
  | .cond x a b => kCond sf ro x a b f S k
  | .block id b => kBlock sf ro id b f S k
  | .loop b => kloop (sf ro b) 1000000 f S k
  | .exit id => k (some (.exit id, f, S))
  | .ret => k (some (.ret, f, S))
  | _ => k none

theorem kcodeStep_eq {call : ACall} {sf : KCode R} {af : ACode} (hs : ∀ ro c f S k, sf ro c f S k = k (af ro c f S)) (ro : Nat) (c : Code) (f : Fr) (S : St) (k : Option (AX × Fr × St) → R) :
    kcodeStep P okS call sf ro c f S k = k (acodeStep P okS call af ro c f S) := by
  cases c with
  | skip => rfl
  | region id ops draw =>
    show kRegion P okS call ro ops draw f S k = k (cRegion P okS call ro ops draw f S)
    cases draw with
    | true => exact kdraw_eq P okS call ro ops f S _
    | false => exact kops_eq P okS call ro ops _ f S _
  | seq a b =>
    show kSeq sf ro a b f S k = k (cSeq af ro a b f S)
    unfold kSeq cSeq
    rw [hs]
    cases af ro a f S with
    | none => rfl
    | some p =>
      obtain ⟨ex, f1, S1⟩ := p
      cases ex with
      | normal => exact hs _ _ _ _ _
      | exit i => rfl
      | ret => rfl
  | cond x a b =>
    show kCond sf ro x a b f S k = k (cCond af ro x a b f S)
    unfold kCond cCond
    cases aval f x with
    | none => rfl
    | some v =>
      cases v with
      | bool c => cases c <;> exact hs _ _ _ _ _
      | _ => rfl
  | block id b =>
    show kBlock sf ro id b f S k = k (cBlock af ro id b f S)
    unfold kBlock cBlock
    rw [hs]
    cases af ro b f S with
    | none => rfl
    | some p =>
      obtain ⟨ex, f1, S1⟩ := p
      cases ex with
      | normal => rfl
      | exit i =>
        simp only
        cases Nat.beq i id <;> rfl
      | ret => rfl
  | loop b => exact kloop_eq (fun f S k => hs ro b f S k) _ _ _ _
  | exit id => rfl
  | ret => rfl
  | _ => rfl

variable (summ : Summ)

def krun : Nat → KCode R
  | 0 => fun _ _ _ _ k => k none
  | n + 1 => kcodeStep P okS (acallWith P summ (arun P okS summ n)) (krun n)

theorem krun_eq : ∀ (n ro : Nat) (c : Code) (f : Fr) (S : St) (k : Option (AX × Fr × St) → R), krun P okS summ n ro c f S k = k (arun P okS summ n ro c f S)
  | 0, ro, c, f, S, k => rfl
  | n + 1, ro, c, f, S, k => kcodeStep_eq P okS (fun ro c f S k => krun_eq n ro c f S k) ro c f S k

/-- A call of a function by its text. -/
def kcall (n : Nat) (ro : Nat) (g : FuncId) (args : List Value) (S : St) (k : Option (Value × St) → R) : R :=
  match P.funcs[g]? with
  | some fn =>
    match fn.body with
    | some c =>
      krun P okS summ n ro c ⟨args.length + (fn.ntmps - args.length), fun i => args.getD i undef⟩ S fun r => match r with
        | some (.exit _, _, _) => k none
        | some (_, f1, S1) => match aresults P f1 S1 fn.results.toList with
          | some vs => k (some (oneOf vs, S1))
          | none => k none
        | none => k none
    | none => k none
  | none => k none

theorem kcall_eq {n ro : Nat} {g : FuncId} (hg : summ g = none) (args : List Value) (S : St) (k : Option (Value × St) → R) : kcall P okS summ n ro g args S k = k (acall P okS summ n ro g args S) := by
  unfold kcall acall acallWith
  rw [hg]
  simp only
  cases P.funcs[g]? with
  | none => rfl
  | some fn =>
    simp only
    cases fn.body with
    | none => rfl
    | some c =>
      simp only
      rw [krun_eq]
      cases arun P okS summ n ro c ⟨args.length + (fn.ntmps - args.length), fun i => args.getD i undef⟩ S with
      | none => rfl
      | some p =>
        obtain ⟨ex, f1, S1⟩ := p
        cases ex with
        | exit i => rfl
        | normal =>
          simp only
          cases aresults P f1 S1 fn.results.toList <;> rfl
        | ret =>
          simp only
          cases aresults P f1 S1 fn.results.toList <;> rfl

end
end Go.Ab

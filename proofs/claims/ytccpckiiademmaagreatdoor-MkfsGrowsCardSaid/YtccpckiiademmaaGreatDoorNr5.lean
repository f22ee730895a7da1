/-
  SYMBOLIC RUNS, part 5: drawn regions; code; calls.
-/
import Derived.Test.YtccpckiiademmaaGreatDoorNr4
set_option linter.unusedSimpArgs false
set_option linter.unusedVariables false
namespace Go.Ab

structure NRec where
  o : Oper
  isC : Bool
  solo : Bool
  fp : List Nat
  wr : Bool
  klo : Nat
  khi : Nat

def isIn (i : Nat) (l : List Nat) : Bool := l.any (Nat.beq i)
def ndisj (xs ys : List Nat) : Bool := xs.all fun x => !(isIn x ys)

def ncompat (x y : NRec) : Bool :=
  match x.solo with
  | true => false
  | false => match x.isC, y.isC with
    | true, true => false
    | true, false => !y.wr && y.fp.all (Nat.blt · x.klo)
    | false, true => !x.wr && Nat.beq x.klo x.khi
    | false, false => (!x.wr || ndisj x.fp y.fp) && ((!y.wr || ndisj y.fp x.fp) && y.fp.all (fun i => Nat.blt i x.klo || Nat.ble x.khi i))

def nunord (m : Nat) : Nat → List NRec → List NRec
  | _, [] => []
  | i, r :: rs => cond (m.testBit i) (nunord m (i + 1) rs) (r :: nunord m (i + 1) rs)

def nres : Tab → List Nat → Bool → Nat → Tab
  | [], _, _, _ => []
  | x :: xs, fp, w, i => (match isIn i fp with
    | true => match x with
      | some e => some ⟨e.nm, e.blk, cond w e.rw false⟩
      | none => none
    | false => none) :: nres xs fp w (i + 1)

def nmerge : Tab → Tab → List Nat → Bool → Nat → Tab
  | [], K1, _, _, _ => K1
  | x :: xs, [], _, _, _ => x :: xs
  | x :: xs, y :: ys, fp, w, i => (match w && isIn i fp with
    | true => y
    | false => x) :: nmerge xs ys fp w (i + 1)

def nfps : List Nat → Tab → (List Nat → NT) → NT
  | [], K, k => k []
  | n :: ns, K, k => nfind n K fun i _ => nfps ns K fun is => k (i :: is)

section
variable (P : Program) (kn : Kn) (ps : FuncId → Option (List Value → Option Value)) (ops : Array Oper) (masks : List Nat)

def ndrawGo : List Oper → Fr → Tab → List NRec → (Fr → Tab → NT) → NT
  | [], f, K, _, k => k f K
  | o :: rest, f, K, prev, k =>
    match lexOK prev.length o && (guardOK o && (nunord ((masks[prev.length]?).getD 0) 0 prev).all fun x => x.o.apart ops o) with
    | false => .fail
    | true => match awanted ops o f with
      | false => fforce (f.put o.dst undef) fun f' => ndrawGo rest f' K (prev ++ [⟨o, false, false, [], false, tlen K, tlen K⟩]) k
      | true => match isCallOp o with
        | true => match (masks.drop (prev.length + 1)).all (·.testBit prev.length) && (nunord ((masks[prev.length]?).getD 0) 0 prev).isEmpty with
          | true => nop P kn ps false f o.op K fun v K1 => tforce K1 fun K1 => nsplit v fun u => fforce (f.put o.dst u) fun f' => ndrawGo rest f' K1 (prev.map (fun r => { r with solo := true }) ++ [⟨o, false, true, [], true, tlen K, tlen K1⟩]) k
          | false => match (nunord ((masks[prev.length]?).getD 0) 0 prev).all (fun x => ncompat x ⟨o, true, false, [], false, tlen K, tlen K⟩) with
            | true => nop P kn ps true f o.op K fun v K1 => tforce K1 fun K1 => nsplit v fun u => fforce (f.put o.dst u) fun f' => ndrawGo rest f' K1 (prev ++ [⟨o, true, false, [], false, tlen K, tlen K1⟩]) k
            | false => .fail
        | false => match opFp f o with
          | (names, w) => nfps names K fun fp => nop P kn ps true f o.op (nres K fp w 0) fun v K1 =>
            match (nunord ((masks[prev.length]?).getD 0) 0 prev).all (fun x => ncompat x ⟨o, false, false, fp, w, tlen K, tlen K1⟩) with
            | true => tforce (nmerge K K1 fp w 0) fun K2 => nsplit v fun u => fforce (f.put o.dst u) fun f' => ndrawGo rest f' K2 (prev ++ [⟨o, false, false, fp, w, tlen K, tlen K1⟩]) k
            | false => .fail

def ndraw (f : Fr) (K : Tab) (k : Fr → Tab → NT) : NT :=
  match Region.noSelect ops with
  | true => ndrawGo P kn ps ops (masksGo ops.toList []) ops.toList f K [] k
  | false => .fail

end

section
variable (P : Program) (kn : Kn) (ps : FuncId → Option (List Value → Option Value))

def nrun : Nat → Code → Fr → Tab → (AX → Fr → Tab → NT) → NT
  | 0, _, _, _, _ => .fail
  | n + 1, c, f, K, k =>
    match c with
    | .skip => k .normal f K
    | .region _ ops draw => match draw with
      | true => ndraw P kn ps ops f K fun f K => k .normal f K
      | false => nops P kn ps ops ops.toList f K fun f K => k .normal f K
    | .seq a b => nrun n a f K fun ex f1 K1 => match ex with
      | .normal => nrun n b f1 K1 k
      | .exit i => k (.exit i) f1 K1
      | .ret => k .ret f1 K1
    | .cond x a b => match aval f x with
      | some (.bool c) => match c with
        | true => nrun n a f K k
        | false => nrun n b f K k
      | _ => .fail
    | .block id b => nrun n b f K fun ex f1 K1 => match ex with
      | .exit i => match Nat.beq i id with
        | true => k .normal f1 K1
        | false => k (.exit i) f1 K1
      | .normal => k .normal f1 K1
      | .ret => k .ret f1 K1
    | .loop b => .loop b f K k
    | .exit id => k (.exit id) f K
    | .ret => k .ret f K
    | _ => .fail

def nresults (f : Fr) (K : Tab) : List ResultVar → (List Value → NT) → NT
  | [], k => k []
  | .tmp t :: r, k => nresults f K r fun vs => k (f.get t :: vs)
  | .cell p t :: r, k => nload P t (f.get p) K fun v => nresults f K r fun vs => k (v :: vs)

/-- A function by its text. -/
def nfun (n : Nat) (g : FuncId) (args : List Value) (K : Tab) : NT :=
  match P.funcs[g]? with
  | some fn => match fn.body with
    | some c => nrun P kn ps n c ⟨args.length + (fn.ntmps - args.length), fun i => args.getD i undef⟩ K fun ex f K => match ex with
      | .exit _ => .fail
      | .normal => nresults P f K fn.results.toList fun vs => .ret (oneOf vs) K
      | .ret => nresults P f K fn.results.toList fun vs => .ret (oneOf vs) K
    | none => .fail
  | none => .fail

end

/-! ### soundness -/

theorem Ev.and {p q : Nat → Prop} (h : Ev p) (g : Ev q) : Ev fun m => p m ∧ q m := by
  obtain ⟨a, ha⟩ := h
  obtain ⟨b, hb⟩ := g
  exact ⟨max a b, fun m hm => ⟨ha m (by omega), hb m (by omega)⟩⟩
theorem Ev.mono {p q : Nat → Prop} (h : Ev p) (g : ∀ m, p m → q m) : Ev q := by
  obtain ⟨a, ha⟩ := h
  exact ⟨a, fun m hm => g m (ha m hm)⟩
theorem Ev.of {p : Nat → Prop} (h : ∀ m, p m) : Ev p := ⟨0, fun m _ => h m⟩
theorem Ev.succ {p : Nat → Prop} (h : Ev fun m => p (m + 1)) : Ev p := by
  obtain ⟨a, ha⟩ := h
  refine ⟨a + 1, fun m hm => ?_⟩
  have h1 : p (m - 1 + 1) := ha (m - 1) (by omega)
  rwa [show m - 1 + 1 = m by omega] at h1

structure Env.OK (E : Env) : Prop where
  ps : ∀ g p, E.ps g = some p → E.summ g = some (pureS p)

section
variable {E : Env} {Q : AX → Fr → St → Prop} {R : Value → St → Prop} {K : Tab} {S : St} {tp : Tp} {f : Fr} {o : Oper}

theorem vc_split {v : Value} {k : Value → NT} (h : VC E Q R (nsplit v k) tp) : ∃ tp', VC E Q R (k v) tp' := by
  unfold nsplit at h
  rw [vforce_eq] at h
  split at h
  · obtain ⟨tp', h1⟩ := vc_bit h
    exact ⟨tp', h1⟩
  · exact ⟨tp, h⟩

theorem acall_pure {E : Env} (hE : E.OK) {g : FuncId} {p : List Value → Option Value} (hg : E.ps g = some p) {args : List Value} {v : Value} (hp : p args = some v) (m ro : Nat) (S : St) : acall E.P E.kn E.summ m ro g args S = some (v, S) := by
  unfold acall acallWith
  rw [hE.ps g p hg]
  simp only [pureS, hp]

/-- One operation, calls and all. -/
theorem nstep_sound (hE : E.OK) (hK : TOK E.ro K S) (hD : Delta E.K0 E.S0 K S) {k : Value → Tab → NT} (h : VC E Q R (nop E.P E.kn E.ps false f o.op K k) tp) :
    ∃ v S' K' tp', Ev (fun m => astep E.P E.kn (acall E.P E.kn E.summ m) E.ro f S o = some (v, S')) ∧ TOK E.ro K' S' ∧ Delta K S K' S' ∧ VC E Q R (k v K') tp' := by
  rcases nop_sound hK h with ⟨v, S', K', tp', h1, h2, h3, h4⟩ | ⟨g, args, p, v, tp', h1, h2, h3, h4⟩ | ⟨g, args, tp', h1, h2, h3⟩
  · exact ⟨v, S', K', tp', .of fun m => by unfold astep; rw [h1], h2, h3.delta, h4⟩
  · exact ⟨v, S, K, tp', .of fun m => by unfold astep; rw [h1]; exact acall_pure hE h2 h3 m E.ro S, hK, Delta.refl K S, h4⟩
  · simp only at h3
    cases tp' <;> simp only [VC] at h3
    rename_i shape t
    obtain ⟨a, S1, h4, h5, h6, h7⟩ := h3 S hK hD
    exact ⟨_, S1, _, _, h4.mono fun m hm => by unfold astep; rw [h1]; exact hm, h5, h6, h7⟩

theorem nops_sound (hE : E.OK) {ops : Array Oper} : ∀ {l : List Oper} {f : Fr} {K : Tab} {S : St} {k : Fr → Tab → NT} {tp : Tp}, TOK E.ro K S → Delta E.K0 E.S0 K S → VC E Q R (nops E.P E.kn E.ps ops l f K k) tp →
    ∃ f' S' K' tp', Ev (fun m => aops E.P E.kn (acall E.P E.kn E.summ m) E.ro ops l f S = some (f', S')) ∧ TOK E.ro K' S' ∧ Delta K S K' S' ∧ VC E Q R (k f' K') tp'
  | [], f, K, S, k, tp, hK, hD, h => ⟨f, S, K, tp, .of fun m => rfl, hK, Delta.refl K S, h⟩
  | o :: rest, f, K, S, k, tp, hK, hD, h => by
    simp only [nops] at h
    cases hw : awanted ops o f with
    | true =>
      rw [hw] at h
      simp only at h
      obtain ⟨v, S1, K1, tp1, h1, h2, h3, h4⟩ := nstep_sound hE hK hD h
      rw [tforce_eq] at h4
      obtain ⟨tp2, h5⟩ := vc_split h4
      rw [fforce_eq] at h5
      obtain ⟨f', S', K', tp3, h6, h7, h8, h9⟩ := nops_sound hE h2 (hD.trans h3) h5
      refine ⟨f', S', K', tp3, (h1.and h6).mono fun m hm => ?_, h7, h3.trans h8, h9⟩
      simp only [aops, hw, cond_true, hm.1, ble_eq, h3.le, decide_true, hm.2]
    | false =>
      rw [hw] at h
      simp only at h
      rw [fforce_eq] at h
      obtain ⟨f', S', K', tp3, h6, h7, h8, h9⟩ := nops_sound hE hK hD h
      exact ⟨f', S', K', tp3, h6.mono fun m hm => by simp only [aops, hw, cond_false, hm], h7, h8, h9⟩

end
end Go.Ab

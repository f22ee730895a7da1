/-
  ABSTRACT HEAPS, part 10: one operation.
-/
import Derived.Test.YtccpckiiademmaaGreatDoorAb9b
import Derived.Lib.Bytealg
set_option linter.unusedSimpArgs false
namespace Go.Ab

/-- What is known of a program: types whose values '==' may compare; entries of the model's that stand for functions without a text. -/
structure Kn where
  okS : TypeId → Bool
  ext : FuncId → Nat

/-- The entries. -/
def aext (k : Nat) (args : List Value) : Option Value :=
  match args with
  | [.string s, .int .u8 c] => match k with
    | 1 => some (.int .i64 (Lib.countByte s.data.toList c.toNat.toUInt8 : Nat))
    | 2 => some (.int .i64 (Lib.indexByte s.data.toList c.toNat.toUInt8))
    | _ => none
  | _ => none

inductive AR where
  | val (v : Value) (S : St)
  | call (f : FuncId) (args : List Value)

def arOf (S : St) : Option Value → Option AR
  | some v => some (.val v S)
  | none => none
def arOf2 : Option (Value × St) → Option AR
  | some (v, S) => some (.val v S)
  | none => none
def arOfS : Option St → Option AR
  | some S => some (.val undef S)
  | none => none

def aparts (f : Fr) : List (Nat × Operand) → Option (List (Nat × Value))
  | [] => some []
  | (i, x) :: xs => match aval f x with
    | some v => match aparts f xs with
      | some vs => some ((i, v) :: vs)
      | none => none
    | none => none

def aopt (f : Fr) : Option Operand → Option (Option Value)
  | none => some none
  | some x => match aval f x with
    | some v => some (some v)
    | none => none

/-- min, max of integers. -/
def amm (mx : Bool) : Value → List Value → Option Value
  | v, [] => some v
  | .int k x, .int _ y :: r => amm mx (.int k (cond mx (if y > x then y else x) (if y < x then y else x))) r
  | _, _ => none

def adelete (P : Program) (ro : Nat) (S : St) (t : TypeId) (m k : Value) : Option St :=
  match m with
  | .map (some b) =>
    match P.underlying t with
    | some (.map kt _) => match P.underlying kt with
      | some d => match S.h.get b with
        | some (.map es clock) =>
          cond (plainKey d && (plainVal k && Nat.ble ro b))
            (match Instr.findNow d k es 0 with
            | some (some (i, _)) => some ⟨S.h.set b (some (.map (es.eraseIdx i) clock)), S.next⟩
            | some none => some ⟨S.h.set b (some (.map es clock)), S.next⟩
            | none => none) none
        | _ => none
      | none => none
    | _ => none
  | _ => none

def abuiltin (P : Program) (ro : Nat) (S : St) (b : Builtin) (ts : List TypeId) (args : List Value) : Option AR :=
  match b, ts, args with
  | .len, [t], [x] => arOf S (alenB P S.h t x)
  | .append, [tS, tX], [s, x] => arOf2 (aappend P ro S tS tX s x)
  | .copy, [tD, _], [d, x] => arOf2 (acopy P ro S tD d x)
  | .min, _, x :: r => match x with
    | .int _ _ => arOf S (amm false x r)
    | _ => none
  | .max, _, x :: r => match x with
    | .int _ _ => arOf S (amm true x r)
    | _ => none
  | .delete, t :: _, [m, k] => match adelete P ro S t m k with
    | some S' => some (.val (.tuple #[]) S')
    | none => none
  | _, _, _ => none

def enterable (P : Program) (g : FuncId) : Bool :=
  match P.funcs[g]? with
  | some fn => fn.body.isSome
  | none => false

/-- The function that stands for a method of a type: no embedded fields, no method of a value through a pointer. -/
def ainvoke (P : Program) (t : TypeId) (name : String) : Option FuncId :=
  match P.info? t with
  | some i => match i.methods.find? (·.name == name) with
    | some m => match m.path.toList with
      | [] => match m.func with
        | some (f, true) => match P.underlying t with
          | some (.pointer _) => some f
          | _ => none
        | _ => none
      | _ => none
    | none => none
  | none => none

def acallOp (P : Program) (okS : Kn) (ro : Nat) (f : Fr) (S : St) (c : Call) : Option AR :=
  match avals f c.args.toList with
  | none => none
  | some args =>
    match c.callee with
    | .builtin b => abuiltin P ro S b c.argTypes.toList args
    | .value x => match aval f x with
      | some (.func (.func g) _ caps) => match okS.ext g with
        | 0 => cond (enterable P g) (some (.call g (args ++ caps.toList))) none
        | k + 1 => arOf S (aext (k + 1) (args ++ caps.toList))
      | _ => none
    | .invoke r name => match aval f r with
      | some (.iface t v) => match ainvoke P t name with
        | some g => match okS.ext g with
          | 0 => cond (enterable P g) (some (.call g (v :: args))) none
          | _ => none
        | none => none
      | _ => none

def aopS (P : Program) (okS : Kn) (ro : Nat) (f : Fr) (S : St) (o : Oper) : Option AR :=
  match o.op with
  | .move x => arOf S (aval f x)
  | .assign x => arOf S (aval f x)
  | .pick c a b => match aval f c with
    | some (.bool true) => match aval f b with
      | some _ => arOf S (aval f a)
      | none => none
    | some (.bool false) => match aval f a with
      | some _ => arOf S (aval f b)
      | none => none
    | _ => none
  | .alloc t => match azero P t with
    | some z => some (.val (abox S t z).1 (abox S t z).2)
    | none => none
  | .box t x => match aval f x with
    | some v => some (.val (abox S t v).1 (abox S t v).2)
    | none => none
  | .build t parts => match aparts f parts.toList with
    | some ps => arOf S (abuild P t ps)
    | none => none
  | .buildSlice t n parts => match aparts f parts.toList with
    | some ps => cond (Nat.blt n UNK) (arOf2 (abuildSlice P S t n ps)) none
    | none => none
  | .load t x => match aval f x with
    | some v => arOf S (aload P S.h t v)
    | none => none
  | .store t a x => match aval f a with
    | some av => match aval f x with
      | some v => arOfS (astore P ro S t av v)
      | none => none
    | none => none
  | .nilCheck x => match aval f x with
    | some v => match v with
      | .pointer none | .nilIface | .nilFunc => none
      | .pointer (some _) | .func _ _ _ => some (.val v S)
      | _ => none
    | none => none
  | .binOp op t x y _ => match aval f x with
    | some u => match aval f y with
      | some v => arOf S (abin P okS.okS S.h op t u v)
      | none => none
    | none => none
  | .unOp op _ x => match aval f x with
    | some v => match op, v with
      | .not, .bool b => some (.val (.bool !b) S)
      | .neg, .int k n => some (.val (.int k (k.wrap (0 - n))) S)
      | .xor, .int k n => some (.val (.int k (bits .xor k (if k.signed then -1 else k.max) n)) S)
      | _, _ => none
    | none => none
  | .convert s d x => match aval f x with
    | some v => match aconv P S s d v with
      | some r => arOf2 (some r)
      | none => arOf2 (aconv2 P ro S s d v)
    | none => none
  | .makeInterface t x => match aval f x with
    | some v => match P.underlying t with
      | some (.interface _) => none
      | some _ => some (.val (.iface t v) S)
      | none => none
    | none => none
  | .makeFunc (.func g) first caps => match first.toList with
    | [] => match avals f caps.toList with
      | some vs => some (.val (.func (.func g) #[] vs.toArray) S)
      | none => none
    | _ => none
  | .makeMap t r => match aopt f r with
    | some v => arOf2 (amakeMap P S t v)
    | none => none
  | .makeSlice t l c => match aval f l with
    | some lv => match aval f c with
      | some cv => arOf2 (amakeSlice P S t lv cv)
      | none => none
    | none => none
  | .slice t x lo hi mx => match aval f x with
    | some v => match aopt f lo with
      | some l => match aopt f hi with
        | some h => match aopt f mx with
          | some m => arOf S (aslice P t v l h m)
          | none => none
        | none => none
      | none => none
    | none => none
  | .fieldAddr t x k => match aval f x with
    | some v => arOf S (afieldAddr P t v k)
    | none => none
  | .field t x k => match aval f x with
    | some v => arOf S (afield P t v k)
    | none => none
  | .indexAddr t x i => match aval f x with
    | some v => match aval f i with
      | some iv => arOf S (aindexAddr P t v iv)
      | none => none
    | none => none
  | .index t x i => match aval f x with
    | some v => match aval f i with
      | some iv => arOf S (aindex P t v iv)
      | none => none
    | none => none
  | .lookup t x k ok => match aval f x with
    | some v => match aval f k with
      | some kv => arOf S (alookup P S.h t v kv ok)
      | none => none
    | none => none
  | .mapUpdate t m k x => match aval f m with
    | some mv => match aval f k with
      | some kv => match aval f x with
        | some v => arOfS (amapUpdate P ro S t mv kv v)
        | none => none
      | none => none
    | none => none
  | .range t x => match aval f x with
    | some v => arOf2 (arange P S t v)
    | none => none
  | .next x isS => match aval f x with
    | some v => arOf2 (anext ro S v isS)
    | none => none
  | .entry x => match aval f x with
    | some v => arOf S (aentry S v)
    | none => none
  | .extract t i => match aval f t with
    | some (.tuple vs) => arOf S vs.toList[i]?
    | _ => none
  | .call c => acallOp P okS ro f S c
  | _ => none

/-! ### the same, each arm a constant of its own: the kernel goes faster so -/

def xMove (f : Fr) (S : St) (x : Operand) : Option AR :=
  arOf S (aval f x)

def xAssign (f : Fr) (S : St) (x : Operand) : Option AR :=
  arOf S (aval f x)

def xPick (f : Fr) (S : St) (c : Operand) (a : Operand) (b : Operand) : Option AR :=
  match aval f c with
  | some (.bool true) => match aval f b with
    | some _ => arOf S (aval f a)
    | none => none
  | some (.bool false) => match aval f a with
    | some _ => arOf S (aval f b)
    | none => none
  | _ => none

def xAlloc (P : Program) (S : St) (t : TypeId) : Option AR :=
  match azero P t with
  | some z => some (.val (abox S t z).1 (abox S t z).2)
  | none => none

def xBox (f : Fr) (S : St) (t : TypeId) (x : Operand) : Option AR :=
  match aval f x with
  | some v => some (.val (abox S t v).1 (abox S t v).2)
  | none => none

def xBuild (P : Program) (f : Fr) (S : St) (t : TypeId) (parts : Array (Nat × Operand)) : Option AR :=
  match aparts f parts.toList with
  | some ps => arOf S (abuild P t ps)
  | none => none

def xBuildSlice (P : Program) (f : Fr) (S : St) (t : TypeId) (n : Nat) (parts : Array (Nat × Operand)) : Option AR :=
  match aparts f parts.toList with
  | some ps => cond (Nat.blt n UNK) (arOf2 (abuildSlice P S t n ps)) none
  | none => none

def xLoad (P : Program) (f : Fr) (S : St) (t : TypeId) (x : Operand) : Option AR :=
  match aval f x with
  | some v => arOf S (aload P S.h t v)
  | none => none

def xStore (P : Program) (ro : Nat) (f : Fr) (S : St) (t : TypeId) (a : Operand) (x : Operand) : Option AR :=
  match aval f a with
  | some av => match aval f x with
    | some v => arOfS (astore P ro S t av v)
    | none => none
  | none => none

def xNilCheck (f : Fr) (S : St) (x : Operand) : Option AR :=
  match aval f x with
  | some v => match v with
    | .pointer none | .nilIface | .nilFunc => none
    | .pointer (some _) | .func _ _ _ => some (.val v S)
    | _ => none
  | none => none

def xBinOp (P : Program) (okS : Kn) (f : Fr) (S : St) (op : BinOp) (t : TypeId) (x : Operand) (y : Operand) : Option AR :=
  match aval f x with
  | some u => match aval f y with
    | some v => arOf S (abin P okS.okS S.h op t u v)
    | none => none
  | none => none

def xUnOp (f : Fr) (S : St) (op : UnOp) (x : Operand) : Option AR :=
  match aval f x with
  | some v => match op, v with
    | .not, .bool b => some (.val (.bool !b) S)
    | .neg, .int k n => some (.val (.int k (k.wrap (0 - n))) S)
    | .xor, .int k n => some (.val (.int k (bits .xor k (if k.signed then -1 else k.max) n)) S)
    | _, _ => none
  | none => none

def xConvert (P : Program) (ro : Nat) (f : Fr) (S : St) (s : TypeId) (d : TypeId) (x : Operand) : Option AR :=
  match aval f x with
  | some v => match aconv P S s d v with
    | some r => arOf2 (some r)
    | none => arOf2 (aconv2 P ro S s d v)
  | none => none

def xMakeInterface (P : Program) (f : Fr) (S : St) (t : TypeId) (x : Operand) : Option AR :=
  match aval f x with
  | some v => match P.underlying t with
    | some (.interface _) => none
    | some _ => some (.val (.iface t v) S)
    | none => none
  | none => none

def xMakeFunc (f : Fr) (S : St) (g : FuncId) (first : Array Operand) (caps : Array Operand) : Option AR :=
  match first.toList with
  | [] => match avals f caps.toList with
    | some vs => some (.val (.func (.func g) #[] vs.toArray) S)
    | none => none
  | _ => none

def xMakeMap (P : Program) (f : Fr) (S : St) (t : TypeId) (r : Option Operand) : Option AR :=
  match aopt f r with
  | some v => arOf2 (amakeMap P S t v)
  | none => none

def xMakeSlice (P : Program) (f : Fr) (S : St) (t : TypeId) (l : Operand) (c : Operand) : Option AR :=
  match aval f l with
  | some lv => match aval f c with
    | some cv => arOf2 (amakeSlice P S t lv cv)
    | none => none
  | none => none

def xSlice (P : Program) (f : Fr) (S : St) (t : TypeId) (x : Operand) (lo : Option Operand) (hi : Option Operand) (mx : Option Operand) : Option AR :=
  match aval f x with
  | some v => match aopt f lo with
    | some l => match aopt f hi with
      | some h => match aopt f mx with
        | some m => arOf S (aslice P t v l h m)
        | none => none
      | none => none
    | none => none
  | none => none

def xFieldAddr (P : Program) (f : Fr) (S : St) (t : TypeId) (x : Operand) (k : Nat) : Option AR :=
  match aval f x with
  | some v => arOf S (afieldAddr P t v k)
  | none => none

def xField (P : Program) (f : Fr) (S : St) (t : TypeId) (x : Operand) (k : Nat) : Option AR :=
  match aval f x with
  | some v => arOf S (afield P t v k)
  | none => none

def xIndexAddr (P : Program) (f : Fr) (S : St) (t : TypeId) (x : Operand) (i : Operand) : Option AR :=
  match aval f x with
  | some v => match aval f i with
    | some iv => arOf S (aindexAddr P t v iv)
    | none => none
  | none => none

def xIndex (P : Program) (f : Fr) (S : St) (t : TypeId) (x : Operand) (i : Operand) : Option AR :=
  match aval f x with
  | some v => match aval f i with
    | some iv => arOf S (aindex P t v iv)
    | none => none
  | none => none

def xLookup (P : Program) (f : Fr) (S : St) (t : TypeId) (x : Operand) (k : Operand) (ok : Bool) : Option AR :=
  match aval f x with
  | some v => match aval f k with
    | some kv => arOf S (alookup P S.h t v kv ok)
    | none => none
  | none => none

def xMapUpdate (P : Program) (ro : Nat) (f : Fr) (S : St) (t : TypeId) (m : Operand) (k : Operand) (x : Operand) : Option AR :=
  match aval f m with
  | some mv => match aval f k with
    | some kv => match aval f x with
      | some v => arOfS (amapUpdate P ro S t mv kv v)
      | none => none
    | none => none
  | none => none

def xRange (P : Program) (f : Fr) (S : St) (t : TypeId) (x : Operand) : Option AR :=
  match aval f x with
  | some v => arOf2 (arange P S t v)
  | none => none

def xNext (ro : Nat) (f : Fr) (S : St) (x : Operand) (isS : Bool) : Option AR :=
  match aval f x with
  | some v => arOf2 (anext ro S v isS)
  | none => none

def xEntry (f : Fr) (S : St) (x : Operand) : Option AR :=
  match aval f x with
  | some v => arOf S (aentry S v)
  | none => none

def xExtract (f : Fr) (S : St) (t : Operand) (i : Nat) : Option AR :=
  match aval f t with
  | some (.tuple vs) => arOf S vs.toList[i]?
  | _ => none

def xCall (P : Program) (okS : Kn) (ro : Nat) (f : Fr) (S : St) (c : Go.Call) : Option AR :=
  acallOp P okS ro f S c

def aop (P : Program) (okS : Kn) (ro : Nat) (f : Fr) (S : St) (o : Oper) : Option AR :=
  match o.op with
  | .move x => xMove f S x
  | .assign x => xAssign f S x
  | .pick c a b => xPick f S c a b
  | .alloc t => xAlloc P S t
  | .box t x => xBox f S t x
  | .build t parts => xBuild P f S t parts
  | .buildSlice t n parts => xBuildSlice P f S t n parts
  | .load t x => xLoad P f S t x
  | .store t a x => xStore P ro f S t a x
  | .nilCheck x => xNilCheck f S x
  | .binOp op t x y _ => xBinOp P okS f S op t x y
  | .unOp op _ x => xUnOp f S op x
  | .convert s d x => xConvert P ro f S s d x
  | .makeInterface t x => xMakeInterface P f S t x
  | .makeFunc (.func g) first caps => xMakeFunc f S g first caps
  | .makeMap t r => xMakeMap P f S t r
  | .makeSlice t l c => xMakeSlice P f S t l c
  | .slice t x lo hi mx => xSlice P f S t x lo hi mx
  | .fieldAddr t x k => xFieldAddr P f S t x k
  | .field t x k => xField P f S t x k
  | .indexAddr t x i => xIndexAddr P f S t x i
  | .index t x i => xIndex P f S t x i
  | .lookup t x k ok => xLookup P f S t x k ok
  | .mapUpdate t m k x => xMapUpdate P ro f S t m k x
  | .range t x => xRange P f S t x
  | .next x isS => xNext ro f S x isS
  | .entry x => xEntry f S x
  | .extract t i => xExtract f S t i
  | .call c => xCall P okS ro f S c
  | _ => none

theorem aop_eq (P : Program) (okS : Kn) (ro : Nat) (f : Fr) (S : St) (o : Oper) : aop P okS ro f S o = aopS P okS ro f S o := by
  unfold aop aopS
  cases o.op <;> first | rfl | (rename_i fn _ _; cases fn <;> rfl)

/-- What is shown of a step. -/
def StepOK (P : Program) (ro : Nat) (ρ : Rn) (S : St) (a : Act) (w : World) (o : Oper) : AR → Prop
  | .val u S' => ∃ nx v w' ρ', (execOp a.eval o).run P w = .ok nx w' ∧ (nx = .value v ∨ (nx = .skip ∧ v = undef)) ∧ Post P ro ρ S.h.get S.next w ρ' S'.h.get S'.next w' ∧ VR ρ' v u
  | .call g args => ∃ cargs, (execOp a.eval o).run P w = .ok (.enter g cargs) w ∧ VRl ρ cargs.toList args

/-- Names that a step takes are free. -/
def StepFree (ρ : Rn) (S : St) : AR → Prop
  | .val _ S' => FreeOn ρ S.next S'.next
  | .call _ _ => True

/-- What is asked of a program once. -/
structure ProgOK (P : Program) (okS : Kn) : Prop where
  mixed : P.follows .mixedOrders = true
  noNG : ∀ (f : FuncId) (fn : Func), P.funcs[f]? = some fn → (fn.name == "runtime.NumGoroutine") = false
  stood : ∀ t, okS.okS t = true → P.stoodInHeld t = false
  guard : ∀ t, okS.okS t = true → P.eqGuardType P.depth t = false
  ext1 : ∀ g, okS.ext g = 1 → ∃ fn, P.funcs[g]? = some fn ∧ (fn.name == "runtime.NumGoroutine") = false ∧ fn.body.isNone = true ∧ Extern.findNext fn = none ∧ Extern.find fn = some Extern.BytealgCount.count
  ext2 : ∀ g, okS.ext g = 2 → ∃ fn, P.funcs[g]? = some fn ∧ (fn.name == "runtime.NumGoroutine") = false ∧ fn.body.isNone = true ∧ Extern.findNext fn = none ∧ Extern.find fn = some Extern.BytealgIndexByte.indexByte

section
variable {P : Program} {okS : Kn} {ro : Nat} {ρ : Rn} {S : St} {a : Act} {w : World} {f : Fr} {o : Oper}

theorem StepOK.ofDone {s : Sem Value} (he : execOp a.eval o = (do pure (.value (← s)))) {u : Value} {S' : St} (h : Done P ro ρ S w s u S') : StepOK P ro ρ S a w o (.val u S') := by
  obtain ⟨v, w', ρ', h1, h2, h3⟩ := h
  exact ⟨.value v, v, w', ρ', by rw [he]; simp [h1], .inl rfl, h2, h3⟩

theorem StepOK.ofPure (hw : WR P ρ w S.h.get) {s : Sem Value} (he : execOp a.eval o = (do pure (.value (← s)))) {u : Value} (h : ∃ v, s.run P w = .ok v w ∧ VR ρ v u) : StepOK P ro ρ S a w o (.val u S) :=
  .ofDone he (.pure hw h)

theorem StepOK.ofUnit {s : Sem Unit} (he : execOp a.eval o = (do s; pure .skip)) {S' : St} (h : ∃ w', s.run P w = .ok () w' ∧ Post P ro ρ S.h.get S.next w ρ S'.h.get S'.next w') : StepOK P ro ρ S a w o (.val undef S') := by
  obtain ⟨w', h1, h2⟩ := h
  exact ⟨.skip, undef, w', ρ, by rw [he]; simp [h1], .inr ⟨rfl, rfl⟩, h2, .undef ρ⟩

theorem arOf_some {v : Option Value} {r : AR} (h : arOf S v = some r) : ∃ u, v = some u ∧ r = .val u S := by
  cases v with
  | none => cases h
  | some u => simp only [arOf, Option.some.injEq] at h; exact ⟨u, rfl, h.symm⟩
theorem arOf2_some {v : Option (Value × St)} {r : AR} (h : arOf2 v = some r) : ∃ u S', v = some (u, S') ∧ r = .val u S' := by
  cases v with
  | none => cases h
  | some u => obtain ⟨u, S'⟩ := u; simp only [arOf2, Option.some.injEq] at h; exact ⟨u, S', rfl, h.symm⟩
theorem arOfS_some {v : Option St} {r : AR} (h : arOfS v = some r) : ∃ S', v = some S' ∧ r = .val undef S' := by
  cases v with
  | none => cases h
  | some u => simp only [arOfS, Option.some.injEq] at h; exact ⟨u, rfl, h.symm⟩

theorem aparts_sound (hw : WR P ρ w S.h.get) (ht : TR ρ a.tmps f) : ∀ {xs : List (Nat × Operand)} {us : List (Nat × Value)}, aparts f xs = some us → PRl ρ (xs.map fun (i, x) => (i, a.eval x)) us
  | [], us, h => by simp [aparts] at h; subst h; trivial
  | (i, x) :: xs, us, h => by
    simp only [aparts] at h
    cases hx : aval f x with
    | none => simp [hx] at h
    | some v =>
      cases hxs : aparts f xs with
      | none => simp [hx, hxs] at h
      | some vs =>
        simp [hx, hxs] at h
        subst h
        exact ⟨rfl, aval_sound hw ht hx, aparts_sound hw ht hxs⟩

theorem aopt_sound (hw : WR P ρ w S.h.get) (ht : TR ρ a.tmps f) {x : Option Operand} {u : Option Value} (h : aopt f x = some u) : OR ρ (x.map a.eval) u := by
  cases x with
  | none => simp [aopt] at h; subst h; trivial
  | some x =>
    simp only [aopt] at h
    cases hx : aval f x with
    | none => simp [hx] at h
    | some v => simp [hx] at h; subst h; exact aval_sound hw ht hx

theorem amm_sound {mx : Bool} : ∀ {x : Value} {us : List Value} {r : Value} {vs : List Value}, (∃ k n, x = .int k n) → VRl ρ vs us → amm mx x us = some r →
    (vs.foldlM (if mx then Builtin.max2 else Builtin.min2) x).run P w = .ok r w ∧ ∃ k n, r = .int k n
  | x, [], r, vs, hx, hv, h => by
    have : vs = [] := List.eq_nil_of_length_eq_zero (by simpa using hv.1)
    subst this
    simp only [amm, Option.some.injEq] at h
    subst h
    exact ⟨rfl, hx⟩
  | x, u :: us, r, [], hx, hv, h => by have := hv.1; simp at this
  | x, u :: us, r, v :: vs, hx, hv, h => by
    obtain ⟨k, n, rfl⟩ := hx
    have h0 := hv.getD 0
    simp at h0
    have ht : VRl ρ vs us := by have := hv.drop 1; simpa using this
    cases u with
    | int k' y =>
      cases h0
      simp only [amm] at h
      have ih := amm_sound ⟨_, _, rfl⟩ ht h
      refine ⟨?_, ih.2⟩
      have := ih.1
      cases mx <;> simpa [List.foldlM_cons, Builtin.max2, Builtin.min2] using this
    | _ => simp [amm] at h

theorem adelete_sound (hw : WR P ρ w S.h.get) {S' : St} {t tk ty : TypeId} {m' m k' k : Value} (hm : VR ρ m' m) (hk : VR ρ k' k) (h : adelete P ro S t m k = some S') :
    Done P ro ρ S w (Builtin.delete_ #[t, tk] ty #[m', k']) (.tuple #[]) S' := by
  unfold adelete at h
  split at h
  · rename_i b
    split at h
    · rename_i kt et ht
      split at h
      · rename_i d hd
        split at h
        · rename_i es clock hb
          rw [ble_eq] at h
          cases hc : (plainKey d && (plainVal k && decide (ro ≤ b))) with
          | false => simp [hc] at h
          | true =>
            simp only [hc, cond_true] at h
            simp only [Bool.and_eq_true, decide_eq_true_eq] at hc
            obtain rfl := plainVal_eq hk hc.2.1
            cases hm with
            | @map _ l hl =>
              obtain ⟨es', ho, hmr⟩ := map_of hw hl hb
              split at h
              · rename_i i u hfn
                simp only [Option.some.injEq] at h
                subst h
                obtain ⟨r', h1, h2⟩ := findNow_sound d k' es es'.toList 0 _ hmr hfn
                cases r' with
                | none => exact h2.elim
                | some y =>
                  obtain ⟨j, u'⟩ := y
                  obtain ⟨rfl, _, _, e', he', hsn⟩ := h2
                  refine ⟨.tuple #[], { w with heap := w.heap.setIfInBounds l.blk (.map (es'.eraseIdxIfInBounds i) clock) }, ρ, ?_, ?_, .undef ρ⟩
                  · simp [Builtin.delete_, run_underlying ht, run_getObj ho, run_checkKey hd hc.1, Instr.findKey, run_underlying hd, h1, run_setObj ho]
                  · refine Post.mapTurn hw hl hc.2.2 hb ho ?_ clock
                    have hlist : (es'.eraseIdxIfInBounds i).toList = es'.toList.eraseIdx i := by simp
                    rw [hlist]
                    have hlen := hmr.1
                    refine ⟨by simp [List.length_eraseIdx, hlen], fun q e hq => ?_⟩
                    rw [List.getElem?_eraseIdx] at hq ⊢
                    split at hq
                    · rename_i hlt
                      obtain ⟨e1, h3, h4⟩ := hmr.2 q e hq
                      exact ⟨e1, by rw [if_pos hlt]; exact h3, h4⟩
                    · rename_i hlt
                      obtain ⟨e1, h3, h4⟩ := hmr.2 (q + 1) e hq
                      exact ⟨e1, by rw [if_neg hlt]; exact h3, h4⟩
              · rename_i hfn
                simp only [Option.some.injEq] at h
                subst h
                obtain ⟨r', h1, h2⟩ := findNow_sound d k' es es'.toList 0 _ hmr hfn
                cases r' with
                | some y => exact h2.elim
                | none =>
                  refine ⟨.tuple #[], { w with heap := w.heap.setIfInBounds l.blk (.map es' clock) }, ρ, ?_, Post.mapTurn hw hl hc.2.2 hb ho hmr clock, .undef ρ⟩
                  simp [Builtin.delete_, run_underlying ht, run_getObj ho, run_checkKey hd hc.1, Instr.findKey, run_underlying hd, h1, run_setObj ho]
              · cases h
        · cases h
      · cases h
    · cases h
  · cases h

end
end Go.Ab

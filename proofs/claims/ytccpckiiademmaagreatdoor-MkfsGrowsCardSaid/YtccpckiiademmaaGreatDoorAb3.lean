/-
  ABSTRACT HEAPS, part 3: arithmetic, comparisons, places in rows, slices, conversions.
-/
import Derived.Test.YtccpckiiademmaaGreatDoorAb2
import Derived.Laws.IdiomStrings
import Derived.Laws.Strings
set_option linter.unusedSimpArgs false
namespace Go.Ab

/-! ### integers -/

/-- Is it less? -/
def ilt : Int → Int → Bool
  | .ofNat a, .ofNat b => Nat.blt a b
  | .ofNat _, .negSucc _ => false
  | .negSucc _, .ofNat _ => true
  | .negSucc a, .negSucc b => Nat.blt b a

theorem ilt_eq (a b : Int) : ilt a b = decide (a < b) := by
  cases a <;> cases b <;> simp only [ilt, blt_eq] <;> apply Bool.eq_iff_iff.2 <;> simp <;> omega

def aintS (op : BinOp) (k : IntKind) (a : Int) (k' : IntKind) (b : Int) : Option Value :=
  match op with
  | .shl => match b with
    | .ofNat n => some (.int k (k.wrap (a * ((2 ^ (min n k.bits) : Nat) : Int))))
    | _ => none
  | .shr => match b with
    | .ofNat n => some (.int k (a.fdiv ((2 ^ (min n k.bits) : Nat) : Int)))
    | _ => none
  | _ => if k = k' then
      match op with
      | .add => some (.int k (k.wrap (a + b)))
      | .sub => some (.int k (k.wrap (a - b)))
      | .mul => some (.int k (k.wrap (a * b)))
      | .quo => if b = 0 then none else some (.int k (k.wrap (a.tdiv b)))
      | .rem => if b = 0 then none else some (.int k (a.tmod b))
      | .and => some (.int k (bits .and k a b))
      | .or => some (.int k (bits .or k a b))
      | .xor => some (.int k (bits .xor k a b))
      | .andNot => some (.int k (bits .andNot k a b))
      | .eql => some (.bool (a == b))
      | .neq => some (.bool (a != b))
      | .lss => some (.bool (ilt a b))
      | .leq => some (.bool (!(ilt b a)))
      | .gtr => some (.bool (ilt b a))
      | .geq => some (.bool (!(ilt a b)))
      | _ => none
    else none

def ishl (k : IntKind) (a : Int) (b : Int) : Option Value :=
  match b with
  | .ofNat n => some (.int k (k.wrap (a * ((2 ^ (min n k.bits) : Nat) : Int))))
  | _ => none
def ishr (k : IntKind) (a : Int) (b : Int) : Option Value :=
  match b with
  | .ofNat n => some (.int k (a.fdiv ((2 ^ (min n k.bits) : Nat) : Int)))
  | _ => none
def iadd (k : IntKind) (a b : Int) : Option Value := some (.int k (k.wrap (a + b)))
def isub (k : IntKind) (a b : Int) : Option Value := some (.int k (k.wrap (a - b)))
def imul (k : IntKind) (a b : Int) : Option Value := some (.int k (k.wrap (a * b)))
def iquo (k : IntKind) (a b : Int) : Option Value := if b = 0 then none else some (.int k (k.wrap (a.tdiv b)))
def irem (k : IntKind) (a b : Int) : Option Value := if b = 0 then none else some (.int k (a.tmod b))
def iand (k : IntKind) (a b : Int) : Option Value := some (.int k (bits .and k a b))
def ior (k : IntKind) (a b : Int) : Option Value := some (.int k (bits .or k a b))
def ixor (k : IntKind) (a b : Int) : Option Value := some (.int k (bits .xor k a b))
def iandNot (k : IntKind) (a b : Int) : Option Value := some (.int k (bits .andNot k a b))
def ieql (a b : Int) : Option Value := some (.bool (a == b))
def ineq (a b : Int) : Option Value := some (.bool (a != b))
def ilss (a b : Int) : Option Value := some (.bool (ilt a b))
def ileq (a b : Int) : Option Value := some (.bool (!(ilt b a)))
def igeq (a b : Int) : Option Value := some (.bool (!(ilt a b)))

def isame (op : BinOp) (k : IntKind) (a b : Int) : Option Value :=
  match op with
  | .add => iadd k a b
  | .sub => isub k a b
  | .mul => imul k a b
  | .quo => iquo k a b
  | .rem => irem k a b
  | .and => iand k a b
  | .or => ior k a b
  | .xor => ixor k a b
  | .andNot => iandNot k a b
  | .eql => ieql a b
  | .neq => ineq a b
  | .lss => ilss a b
  | .leq => ileq a b
  | .gtr => ilss b a
  | .geq => igeq a b
  | _ => none

def aint (op : BinOp) (k : IntKind) (a : Int) (k' : IntKind) (b : Int) : Option Value :=
  match op with
  | .shl => ishl k a b
  | .shr => ishr k a b
  | op => if k = k' then isame op k a b else none

theorem aint_eq (op : BinOp) (k : IntKind) (a : Int) (k' : IntKind) (b : Int) : aint op k a k' b = aintS op k a k' b := by
  cases op <;> rfl

theorem pow_cast (n : Nat) : ((2 ^ n : Nat) : Int) = (2 : Int) ^ n := by simp

theorem not_lt_le (a b : Int) : decide (¬ a < b) = decide (b ≤ a) := by
  apply Bool.eq_iff_iff.2; simp

theorem aint_sound {op : BinOp} {t : TypeId} {k k' : IntKind} {a b : Int} {x : Value} (h0 : aint op k a k' b = some x) (P : Program) (w : World) :
    (binOp op t (.int k a) (.int k' b)).run P w = .ok x w ∧ ∀ ρ, VR ρ x x := by
  have h := h0
  rw [aint_eq] at h
  clear h0
  cases op
  case shl =>
    simp only [aintS] at h
    cases b with
    | ofNat n =>
      simp only [Option.some.injEq] at h
      subst h
      refine ⟨?_, fun ρ => .int _ _⟩
      rw [binOp_shl]
      have : ¬ ((Int.ofNat n : Int) < 0) := by simp
      simp only [Op.shift, this, if_false, Int.ofNat_eq_natCast, Int.toNat_natCast, pow_cast]
      rfl
    | negSucc n => cases h
  case shr =>
    simp only [aintS] at h
    cases b with
    | ofNat n =>
      simp only [Option.some.injEq] at h
      subst h
      refine ⟨?_, fun ρ => .int _ _⟩
      rw [binOp_shr]
      have : ¬ ((Int.ofNat n : Int) < 0) := by simp
      simp only [Op.shift, this, if_false, Int.ofNat_eq_natCast, Int.toNat_natCast, pow_cast]
      rfl
    | negSucc n => cases h
  all_goals
    simp only [aintS] at h
    by_cases hk : k = k'
    · subst hk
      simp only [if_true] at h
      first
        | (simp only [Option.some.injEq] at h
           subst h
           refine ⟨?_, fun ρ => by constructor⟩
           first
             | (rw [binOp_add]; rfl) | (rw [binOp_sub]; rfl) | (rw [binOp_mul]; rfl) | (rw [binOp_and, intBits_and]; rfl) | (rw [binOp_or, intBits_or]; rfl) | (rw [binOp_xor, intBits_xor]; rfl) | (rw [binOp_andNot, intBits_andNot]; rfl)
             | (rw [binOp_eql]; rfl) | (rw [binOp_neq]; rfl) | (rw [binOp_lss, ilt_eq]; rfl) | (rw [binOp_leq, ilt_eq, ← decide_not, not_lt_le]; rfl) | (rw [binOp_gtr, ilt_eq]; rfl) | (rw [binOp_geq, ilt_eq, ← decide_not, not_lt_le]; rfl))
        | (by_cases hb : b = 0
           · simp [hb] at h
           · simp only [hb, if_false, Option.some.injEq] at h
             subst h
             refine ⟨?_, fun ρ => by constructor⟩
             first
               | (rw [binOp_quo]; simp [Op.intDiv, hb]) | (rw [binOp_rem]; simp [Op.intDiv, hb]))
        | cases h
    · simp [hk] at h

/-! ### strings -/

def bapp (a b : ByteArray) : ByteArray := ⟨(a.data.toList ++ b.data.toList).toArray⟩
theorem bapp_eq (a b : ByteArray) : a ++ b = bapp a b := by
  unfold bapp
  apply ByteArray.ext
  simp [ByteArray.data_append]

def bsub (s : ByteArray) (l h : Nat) : ByteArray := ⟨((s.data.toList.drop l).take (h - l)).toArray⟩

def astr (op : BinOp) (a b : ByteArray) : Option Value :=
  match op with
  | .add => cond (Nat.ble (a.data.toList.length + b.data.toList.length) 4611686018427387904) (some (.string (bapp a b))) none
  | .eql => some (.bool (a.data.toList == b.data.toList))
  | .neq => some (.bool !(a.data.toList == b.data.toList))
  | .lss => some (.bool (Op.bytesLess a.data.toList b.data.toList))
  | .leq => some (.bool (Op.bytesLess a.data.toList b.data.toList || a.data.toList == b.data.toList))
  | .gtr => some (.bool !(Op.bytesLess a.data.toList b.data.toList || a.data.toList == b.data.toList))
  | .geq => some (.bool !(Op.bytesLess a.data.toList b.data.toList))
  | _ => none

theorem binOp_string (op : BinOp) (t : TypeId) (a b : ByteArray) : binOp op t (.string a) (.string b) = Op.stringOp op a b := by cases op <;> rfl

theorem astr_sound {op : BinOp} {t : TypeId} {a b : ByteArray} {x : Value} (h : astr op a b = some x) (P : Program) (w : World) :
    (binOp op t (.string a) (.string b)).run P w = .ok x w ∧ ∀ ρ, VR ρ x x := by
  rw [binOp_string]
  cases op <;> simp only [astr] at h
  case add =>
    rw [ble_eq] at h
    by_cases hs : a.data.toList.length + b.data.toList.length ≤ 4611686018427387904
    · simp only [hs, decide_true, cond_true, Option.some.injEq] at h
      subst h
      refine ⟨?_, fun ρ => .string _⟩
      have h1 : a.data.toList.length = a.size := by rw [Array.length_toList]; rfl
      have h2 : b.data.toList.length = b.size := by rw [Array.length_toList]; rfl
      rw [h1, h2] at hs
      have h3 : ¬ (IntKind.i64.max < ((a.size + b.size : Nat) : Int)) := by rw [IntKind.max_i64]; omega
      simp only [Op.stringOp]
      rw [if_neg (by simpa using h3), bapp_eq]
      rfl
    · rw [decide_eq_false hs] at h
      cases h
  all_goals
    first
      | (simp only [Option.some.injEq] at h
         subst h
         refine ⟨?_, fun ρ => .bool _⟩
         simp only [Op.stringOp, ByteArray.toList_eq]
         rfl)
      | cases h

/-! ### '==' -/

def apart (P : Program) (t : TypeId) (cs : Array Value) (off : Nat) : Option Value :=
  match P.underlying t with
  | some d => match isAggD d with
    | true => some (.agg ((cs.toList.drop off).take (P.cellsOf t)).toArray)
    | false => cs.toList[off]?
  | none => none

theorem extract_list (cs : Array Value) (off n : Nat) : cs.extract off (off + n) = ((cs.toList.drop off).take n).toArray := by
  apply Array.ext'
  simp [List.take_drop]

theorem apart_sound {P : Program} {ρ : Rn} {w : World} {t : TypeId} {cs us : Array Value} {off : Nat} {x : Value} (hv : VRs ρ cs us) (h : apart P t us off = some x) :
    ∃ y, (part t cs off).run P w = .ok y w ∧ VR ρ y x := by
  unfold apart at h
  split at h
  · rename_i d hd
    obtain ⟨i, hi⟩ := info_of_underlying hd
    split at h
    · rename_i ha
      simp only [Option.some.injEq] at h
      subst h
      have hl := (hv.toList.drop off).take (P.cellsOf t)
      refine ⟨.agg ((cs.toList.drop off).take (P.cellsOf t)).toArray, ?_, .agg _ _ hl.toArray.1 hl.toArray.2⟩
      simp [part, run_isAgg hd, ha, run_sizeOf hi, extract_list, cellsOf_info hi]
    · rename_i ha
      obtain ⟨y, h1, h2⟩ := hv.toList.at h
      refine ⟨y, ?_, h2⟩
      have h1' : cs[off]? = some y := by simpa using h1
      simp [part, run_isAgg hd, ha, h1']
  · cases h

def aeqFields (rec : TypeId → Value → Value → Option Bool) (P : Program) (xs ys : Array Value) : List Field → Option Bool
  | [] => some true
  | f :: fs =>
    if f.name ≠ "_" then
      match apart P f.type xs f.offset with
      | some a => match apart P f.type ys f.offset with
        | some b => match rec f.type a b with
          | some true => aeqFields rec P xs ys fs
          | r => r
        | none => none
      | none => none
    else aeqFields rec P xs ys fs

def isCls (H : Tr Blk) (b : Nat) : Bool :=
  match H.get b with
  | some (.row .cls _ _) => true
  | _ => false

def aeq (P : Program) (okS : TypeId → Bool) (H : Tr Blk) : Nat → TypeId → Value → Value → Option Bool
  | 0, _, _, _ => none
  | d + 1, t, x, y =>
    match P.underlying t with
    | none => none
    | some D =>
      match D, x, y with
      | .bool, .bool a, .bool b => some (a == b)
      | .int _, .int k a, .int k' b => if k = k' then some (a == b) else none
      | .string, .string a, .string b => some (a.data.toList == b.data.toList)
      | .pointer _, .pointer none, .pointer none => some true
      | .pointer _, .pointer none, .pointer (some _) => some false
      | .pointer _, .pointer (some _), .pointer none => some false
      | .pointer e, .pointer (some ⟨b, o, none⟩), .pointer (some ⟨b', o', none⟩) =>
        cond (Nat.beq (P.cellsOf e) 0) none (cond (Nat.beq b b') (some (Nat.beq o o')) (cond (isCls H b && isCls H b') (some false) none))
      | .struct fields, .agg xs, .agg ys => cond (okS t) (aeqFields (aeq P okS H d) P xs ys fields.toList) none
      | .slice _, .slice none _ _, .slice b _ _ => some b.isNone
      | .slice _, .slice (some _) _ _, .slice none _ _ => some false
      | .map _ _, .map none, .map b => some b.isNone
      | .map _ _, .map (some _), .map none => some false
      | .func _ _ _, .nilFunc, .nilFunc => some true
      | .func _ _ _, .nilFunc, .func _ _ _ => some false
      | .func _ _ _, .func _ _ _, .nilFunc => some false
      | _, _, _ => none

theorem run_sameAddr_cls {P : Program} {w : World} {a b : Addr} (hne : a.block ≠ b.block) {c c' : Array Value} {e e' : TypeId} (ha : w.heap[a.block]? = some (.cells c e (0, 0))) (hb : w.heap[b.block]? = some (.cells c' e' (0, 0))) :
    (sameAddr a b).run P w = .ok false w := by
  have h1 : ∀ o s, w.frozen? ⟨a.block, o, s⟩ = false := fun o s => by simp [World.frozen?, ha]
  have h1' : w.frozen? a = false := by simp [World.frozen?, ha]
  have h2 : ∀ o s, w.frozen? ⟨b.block, o, s⟩ = false := fun o s => by simp [World.frozen?, hb]
  have h2' : w.frozen? b = false := by simp [World.frozen?, hb]
  have h3 : w.shape? a.block = some (e, c.size) := by simp [World.shape?, ha]
  have h4 : w.shape? b.block = some (e', c'.size) := by simp [World.shape?, hb]
  have hne' : (a.block == b.block) = false := by simpa using hne
  simp [sameAddr, hne', noView, viewAt, mayBeOne, stringish, h1, h1', h2, h2', h3, h4]

theorem isCls_row {P : Program} {ρ : Rn} {w : World} {H : Tr Blk} (hw : WR P ρ w H.get) {b : Nat} {l : Loc} (hl : ρ b = some l) (h : isCls H b = true) :
    (∃ bb, H.get b = some bb) ∧ ∃ c e, w.heap[l.blk]? = some (.cells c e (0, 0)) := by
  unfold isCls at h
  split at h
  · rename_i e cs hb
    obtain ⟨l', h1, h2⟩ := hw.blk b _ hb
    rw [hl] at h1
    obtain rfl : l = l' := by simpa using h1
    obtain ⟨cc, e', fr, ho, _, hf, _⟩ := h2
    subst hf
    exact ⟨⟨_, hb⟩, cc, e', ho⟩
  · cases h

theorem aeq_sound {P : Program} {okS : TypeId → Bool} (hS : ∀ t, okS t = true → P.stoodInHeld t = false) {ρ : Rn} {w : World} {H : Tr Blk} (hw : WR P ρ w H.get) :
    ∀ (d : Nat) (t : TypeId) (x y x' y' : Value) (r : Bool), VR ρ x' x → VR ρ y' y → aeq P okS H d t x y = some r → ∀ D, d ≤ D → (Op.equalIn D t x' y').run P w = .ok r w := by
  intro d
  induction d with
  | zero => intro t x y x' y' r _ _ h; simp [aeq] at h
  | succ d ih =>
    intro t x y x' y' r hx hy h D hD
    obtain ⟨D, rfl⟩ : ∃ m, D = m + 1 := ⟨D - 1, by omega⟩
    simp only [aeq] at h
    cases hd : P.underlying t with
    | none => simp [hd] at h
    | some T =>
      simp only [hd] at h
      split at h
      · -- bool
        cases hx; cases hy
        simp only [Option.some.injEq] at h; subst h
        simp [Op.equalIn, run_underlying hd]
      · -- int
        cases hx; cases hy
        rename_i k a k' b
        by_cases hk : k = k'
        · subst hk
          simp only [if_true, Option.some.injEq] at h; subst h
          simp [Op.equalIn, run_underlying hd]
        · simp [hk] at h
      · -- string
        cases hx; cases hy
        simp only [Option.some.injEq] at h; subst h
        simp [Op.equalIn, run_underlying hd, beq_toListBytes, ByteArray.toList_eq]
      · cases hx; cases hy
        simp only [Option.some.injEq] at h; subst h
        simp [Op.equalIn, run_underlying hd]
      · cases hx; cases hy
        simp only [Option.some.injEq] at h; subst h
        simp [Op.equalIn, run_underlying hd]
      · cases hx; cases hy
        simp only [Option.some.injEq] at h; subst h
        simp [Op.equalIn, run_underlying hd]
      · -- two pointers
        rename_i e b o b' o'
        cases hx with
        | @ptr _ l _ hl =>
          cases hy with
          | @ptr _ l' _ hl' =>
            simp only [cond_beq] at h
            by_cases he : P.cellsOf e = 0
            · simp [he] at h
            · simp only [he, if_false] at h
              have hsz : (sizeOf e).run P w = .ok (P.cellsOf e) w := by
                cases hi : P.info? e with
                | none => simp [Program.cellsOf, hi] at he
                | some i => rw [run_sizeOf hi, cellsOf_info hi]
              by_cases hb : b = b'
              · subst hb
                rw [hl] at hl'
                obtain rfl : l = l' := by simpa using hl'
                simp only [if_true, Option.some.injEq] at h
                subst h
                have e1 : (({ block := l.blk, off := o + l.dis } : Addr) == { block := l.blk, off := o' + l.dis }) = Nat.beq o o' := by
                  rw [Bool.eq_iff_iff]
                  simp
                simp [Op.equalIn, run_underlying hd, hsz, he, sameAddr, e1]
              · simp only [hb, if_false] at h
                cases hc : (isCls H b && isCls H b') with
                | false => simp [hc] at h
                | true =>
                  simp only [hc, cond_true, Option.some.injEq] at h
                  subst h
                  simp only [Bool.and_eq_true] at hc
                  obtain ⟨⟨bb, hbb⟩, c1, e1, h1⟩ := isCls_row hw hl hc.1
                  obtain ⟨⟨bb', hbb'⟩, c2, e2, h2⟩ := isCls_row hw hl' hc.2
                  have hne : l.blk ≠ l'.blk := fun e => hb (hw.inj _ _ _ _ _ _ hbb hbb' hl hl' e)
                  simp [Op.equalIn, run_underlying hd, hsz, he, run_sameAddr_cls (a := ⟨l.blk, o + l.dis, none⟩) (b := ⟨l'.blk, o' + l'.dis, none⟩) hne h1 h2]
      · -- structs
        rename_i fields xs ys
        cases hx with
        | agg xs' _ hs1 hv1 =>
          cases hy with
          | agg ys' _ hs2 hv2 =>
            cases ho : okS t with
            | false => simp [ho] at h
            | true =>
              simp only [ho, cond_true] at h
              have hfo : P.fieldsOf t = fields := by simp [Program.fieldsOf, hd]
              rw [run_equalIn_struct w D t xs' ys' (by rw [hfo]; exact hd) (hS t ho), hfo]
              generalize fields.toList = fs at h
              have hvx : VRs ρ xs' xs := ⟨hs1, hv1⟩
              have hvy : VRs ρ ys' ys := ⟨hs2, hv2⟩
              clear hd hfo
              induction fs with
              | nil => simp only [aeqFields, Option.some.injEq] at h; subst h; simp [Op.eqFields]
              | cons f fs ihf =>
                simp only [aeqFields] at h
                simp only [Op.eqFields]
                by_cases hn : f.name ≠ "_"
                · rw [if_pos hn] at h ⊢
                  cases ha : apart P f.type xs f.offset with
                  | none => simp [ha] at h
                  | some a =>
                    cases hb : apart P f.type ys f.offset with
                    | none => simp [ha, hb] at h
                    | some b =>
                      simp only [ha, hb] at h
                      obtain ⟨a', h1, h2⟩ := apart_sound (w := w) hvx ha
                      obtain ⟨b', h3, h4⟩ := apart_sound (w := w) hvy hb
                      cases hr : aeq P okS H d f.type a b with
                      | none => simp [hr] at h
                      | some r' =>
                        have h5 := ih f.type a b a' b' r' h2 h4 hr D (by omega)
                        cases r' with
                        | true =>
                          simp only [hr] at h
                          simp [h1, h3, h5, ihf h]
                        | false =>
                          simp only [hr, Option.some.injEq] at h
                          subst h
                          simp [h1, h3, h5]
                · rw [if_neg hn] at h ⊢
                  exact ihf h
      · cases hx
        simp only [Option.some.injEq] at h; subst h
        cases hy <;> simp [Op.equalIn, run_underlying hd]
      · cases hy
        cases hx <;> (simp only [Option.some.injEq] at h; subst h; simp [Op.equalIn, run_underlying hd])
      · cases hx
        simp only [Option.some.injEq] at h; subst h
        cases hy <;> simp [Op.equalIn, run_underlying hd]
      · cases hy; cases hx
        simp only [Option.some.injEq] at h; subst h; simp [Op.equalIn, run_underlying hd]
      · cases hx; cases hy
        simp only [Option.some.injEq] at h; subst h; simp [Op.equalIn, run_underlying hd]
      · cases hx; cases hy
        simp only [Option.some.injEq] at h; subst h; simp [Op.equalIn, run_underlying hd]
      · cases hx; cases hy
        simp only [Option.some.injEq] at h; subst h; simp [Op.equalIn, run_underlying hd]
      · cases h

def abin (P : Program) (okS : TypeId → Bool) (H : Tr Blk) (op : BinOp) (t : TypeId) (x y : Value) : Option Value :=
  match x, y with
  | .int k a, .int k' b => aint op k a k' b
  | .string a, .string b => astr op a b
  | _, _ => match op with
    | .eql => match aeq P okS H 100 t x y with
      | some r => some (.bool r)
      | none => none
    | .neq => match aeq P okS H 100 t x y with
      | some r => some (.bool !r)
      | none => none
    | _ => none

theorem aeq_not_iface {P : Program} {okS : TypeId → Bool} {H : Tr Blk} {d : Nat} {t : TypeId} {y : Value} {r : Bool} (h : aeq P okS H d t .nilIface y = some r) : False := by
  cases d with
  | zero => simp [aeq] at h
  | succ d =>
    simp only [aeq] at h
    cases hd : P.underlying t with
    | none => simp [hd] at h
    | some T => cases T <;> simp [hd] at h
theorem aeq_agg {P : Program} {okS : TypeId → Bool} {H : Tr Blk} {d : Nat} {t : TypeId} {xs : Array Value} {y : Value} {r : Bool} (h : aeq P okS H d t (.agg xs) y = some r) : okS t = true := by
  cases d with
  | zero => simp [aeq] at h
  | succ d =>
    simp only [aeq] at h
    cases hd : P.underlying t with
    | none => simp [hd] at h
    | some T =>
      simp only [hd] at h
      split at h <;> first | (simp_all; done) | (cases ho : okS t <;> simp_all)

theorem eqGuard_ok {P : Program} {okS : TypeId → Bool} (hG : ∀ t, okS t = true → P.eqGuardType P.depth t = false) {ρ : Rn} {w : World} {H : Tr Blk} {op : BinOp} {t : TypeId} {x y : Operand} {u v u' v' : Value}
    (hu : VR ρ u' u) (hv : VR ρ v' v) {r : Bool} (h : aeq P okS H 100 t u v = some r) : (eqGuard op t x y u' v').run P w = .ok () w := by
  cases hu with
  | nilIface => exact (aeq_not_iface h).elim
  | agg xs ys hs hh =>
    cases hv with
    | agg xs2 ys2 hs2 hh2 => exact run_eqGuard_agg w op t x y xs xs2 (hG t (aeq_agg h))
    | _ => cases op <;> rfl
  | _ => cases op <;> rfl

theorem abin_sound {P : Program} {okS : TypeId → Bool} (hS : ∀ t, okS t = true → P.stoodInHeld t = false) (hG : ∀ t, okS t = true → P.eqGuardType P.depth t = false) {ρ : Rn} {w : World} {H : Tr Blk} (hw : WR P ρ w H.get)
    {op : BinOp} {t : TypeId} {x y : Operand} {u v u' v' r : Value} (hu : VR ρ u' u) (hv : VR ρ v' v) (h : abin P okS H op t u v = some r) :
    ∃ r', (do eqGuard op t x y u' v'; binOp op t u' v').run P w = .ok r' w ∧ VR ρ r' r := by
  unfold abin at h
  split at h
  · cases hu; cases hv
    obtain ⟨h1, h2⟩ := aint_sound (t := t) h P w
    exact ⟨r, by rw [eqGuard_at_int]; simpa using h1, h2 ρ⟩
  · cases hu; cases hv
    obtain ⟨h1, h2⟩ := astr_sound (t := t) h P w
    exact ⟨r, by rw [eqGuard_at_string]; simpa using h1, h2 ρ⟩
  · rename_i n1 n2
    have key : ∀ r0, aeq P okS H 100 t u v = some r0 → (binOp .eql t u' v').run P w = .ok (.bool r0) w ∧ (binOp .neq t u' v').run P w = .ok (.bool !r0) w := by
      intro r0 h0
      have h1 := aeq_sound hS hw 100 t u v u' v' r0 hu hv h0 10000 (by omega)
      have e1 : binOp .eql t u' v' = (do pure (.bool (← Op.equal t u' v'))) := by
        cases hu <;> cases hv <;> first | rfl | exact absurd rfl (n1 _ _ _ _ rfl) | exact absurd rfl (n2 _ _ rfl) | (exact (n1 _ _ _ _ rfl rfl).elim) | (exact (n2 _ _ rfl rfl).elim)
      have e2 : binOp .neq t u' v' = (do pure (.bool (!(← Op.equal t u' v')))) := by
        cases hu <;> cases hv <;> first | rfl | (exact (n1 _ _ _ _ rfl rfl).elim) | (exact (n2 _ _ rfl rfl).elim)
      rw [e1, e2]
      exact ⟨by simp [Op.equal, Op.maxDepth, h1], by simp [Op.equal, Op.maxDepth, h1]⟩
    split at h
    · cases h0 : aeq P okS H 100 t u v with
      | none => simp [h0] at h
      | some r0 =>
        simp only [h0, Option.some.injEq] at h
        subst h
        exact ⟨.bool r0, by simp only [Sem.run_bind, eqGuard_ok hG hu hv h0, Result.andThen_ok, (key r0 h0).1], .bool _⟩
    · cases h0 : aeq P okS H 100 t u v with
      | none => simp [h0] at h
      | some r0 =>
        simp only [h0, Option.some.injEq] at h
        subst h
        exact ⟨.bool !r0, by simp only [Sem.run_bind, eqGuard_ok hG hu hv h0, Result.andThen_ok, (key r0 h0).2], .bool _⟩
    · cases h

end Go.Ab

/-
  ABSTRACT HEAPS, part 4: places, slices, conversions, literals, new blocks.
-/
import Derived.Test.YtccpckiiademmaaGreatDoorAb3
set_option linter.unusedSimpArgs false
namespace Go.Ab

/-! ### places -/

def afieldAddr (P : Program) (t : TypeId) (x : Value) (k : Nat) : Option Value :=
  match x with
  | .pointer (some ⟨b, off, none⟩) =>
    match P.underlying t with
    | some (.struct fields) => match fields[k]? with
      | some f => match P.info? f.type with
        | some i => cond (Nat.beq i.size 0) none (some (.pointer (some ⟨b, off + f.offset, none⟩)))
        | none => none
      | none => none
    | _ => none
  | _ => none

theorem afieldAddr_sound {P : Program} {ρ : Rn} {w : World} {t : TypeId} {x' x r : Value} {k : Nat} (hx : VR ρ x' x) (h : afieldAddr P t x k = some r) : ∃ r', (Instr.fieldAt t x' k).run P w = .ok r' w ∧ VR ρ r' r := by
  unfold afieldAddr at h
  split at h
  · rename_i b off
    cases hx with
    | @ptr _ l _ hl =>
      split at h
      · rename_i fields hd
        split at h
        · rename_i f hf
          split at h
          · rename_i i hi
            rw [cond_beq] at h
            by_cases hz : i.size = 0
            · simp [hz] at h
            · simp only [hz, if_false, Option.some.injEq] at h
              subst h
              refine ⟨.pointer (some ⟨l.blk, (off + f.offset) + l.dis, none⟩), ?_, .ptr _ hl⟩
              have e : (⟨l.blk, off + l.dis, none⟩ : Addr).add f.offset = ⟨l.blk, (off + f.offset) + l.dis, none⟩ := by rw [add_lit]; congr 1; omega
              simp [Instr.fieldAt, run_underlying hd, hf, Instr.sureAddr, fieldPlace, run_sizeOf hi, hz, e]
          · cases h
        · cases h
      · cases h
  · cases h

def afield (P : Program) (t : TypeId) (x : Value) (k : Nat) : Option Value :=
  match x with
  | .agg cs => match P.underlying t with
    | some (.struct fields) => match fields[k]? with
      | some f => apart P f.type cs f.offset
      | none => none
    | _ => none
  | _ => none

theorem afield_sound {P : Program} {ρ : Rn} {w : World} {t : TypeId} {x' x r : Value} {k : Nat} (hx : VR ρ x' x) (h : afield P t x k = some r) : ∃ r', (Instr.field t x' k).run P w = .ok r' w ∧ VR ρ r' r := by
  unfold afield at h
  split at h
  · rename_i cs
    cases hx with
    | agg xs _ hs hv =>
      split at h
      · rename_i fields hd
        split at h
        · rename_i f hf
          obtain ⟨y, h1, h2⟩ := apart_sound (w := w) (⟨hs, hv⟩ : VRs ρ xs cs) h
          exact ⟨y, by simp [Instr.field, run_underlying hd, hf, asAgg, h1], h2⟩
        · cases h
      · cases h
  · cases h

def aindexAddr (P : Program) (t : TypeId) (x ix : Value) : Option Value :=
  match ix with
  | .int _ (.ofNat i) =>
    match P.underlying t with
    | some (.slice e) => match x with
      | .slice (some ⟨b, off, none⟩) n _ => match P.info? e with
        | some j => cond (Nat.blt i n) (some (.pointer (some ⟨b, off + i * j.size, none⟩))) none
        | none => none
      | _ => none
    | some (.array n e) => match x with
      | .pointer (some ⟨b, off, none⟩) => match P.info? e with
        | some j => cond (Nat.blt i n) (some (.pointer (some ⟨b, off + i * j.size, none⟩))) none
        | none => none
      | _ => none
    | _ => none
  | _ => none

theorem aindexAddr_sound {P : Program} {ρ : Rn} {w : World} {t : TypeId} {x' x ix' ix r : Value} (hx : VR ρ x' x) (hi : VR ρ ix' ix) (h : aindexAddr P t x ix = some r) : ∃ r', (Instr.indexAt t x' ix').run P w = .ok r' w ∧ VR ρ r' r := by
  unfold aindexAddr at h
  split at h
  · rename_i kk i
    cases hi
    split at h
    · rename_i e hd
      split at h
      · rename_i b off n c
        split at h
        · rename_i j hj
          rw [blt_eq] at h
          by_cases hlt : i < n
          · simp only [hlt, decide_true, cond_true, Option.some.injEq] at h
            subst h
            cases hx with
            | @slice _ l _ _ c0 _ hl hc =>
              refine ⟨.pointer (some ⟨l.blk, (off + i * j.size) + l.dis, none⟩), ?_, .ptr _ hl⟩
              have e1 : (⟨l.blk, off + l.dis, none⟩ : Addr).add (i * j.size) = ⟨l.blk, (off + i * j.size) + l.dis, none⟩ := by rw [add_lit]; congr 1; omega
              have h0 : (0 : Int) ≤ Int.ofNat i := by simp
              simp [Instr.indexAt, run_underlying hd, asIntOf, run_sizeOf hj, hlt, e1]
            | void a c => omega
          · simp [hlt] at h
        · cases h
      · cases h
    · rename_i n e hd
      split at h
      · rename_i b off
        split at h
        · rename_i j hj
          rw [blt_eq] at h
          by_cases hlt : i < n
          · simp only [hlt, decide_true, cond_true, Option.some.injEq] at h
            subst h
            cases hx with
            | @ptr _ l _ hl =>
              refine ⟨.pointer (some ⟨l.blk, (off + i * j.size) + l.dis, none⟩), ?_, .ptr _ hl⟩
              have e1 : (⟨l.blk, off + l.dis, none⟩ : Addr).add (i * j.size) = ⟨l.blk, (off + i * j.size) + l.dis, none⟩ := by rw [add_lit]; congr 1; omega
              simp [Instr.indexAt, run_underlying hd, asIntOf, Instr.sureAddr, run_sizeOf hj, hlt, e1]
          · simp [hlt] at h
        · cases h
      · cases h
    · cases h
  · cases h

def aindex (P : Program) (t : TypeId) (x ix : Value) : Option Value :=
  match ix with
  | .int _ (.ofNat i) =>
    match P.underlying t, x with
    | some (.array n e), .agg cs => match P.info? e with
      | some j => cond (Nat.blt i n) (apart P e cs (i * j.size)) none
      | none => none
    | some .string, .string s => match s.data.toList[i]? with
      | some b => some (.int .u8 b.toNat)
      | none => none
    | _, _ => none
  | _ => none

theorem string_at (s : ByteArray) (i : Nat) : s[i]? = s.data.toList[i]? := by
  by_cases h : i < s.size
  · have h' : i < s.data.toList.length := by rw [Array.length_toList]; exact h
    rw [getElem?_pos s i h, List.getElem?_eq_getElem h']
    simp [ByteArray.getElem_eq_getElem_data]
  · have h' : ¬ i < s.data.toList.length := by rw [Array.length_toList]; exact h
    rw [getElem?_neg s i h, List.getElem?_eq_none (by omega)]

theorem aindex_sound {P : Program} {ρ : Rn} {w : World} {t : TypeId} {x' x ix' ix r : Value} (hx : VR ρ x' x) (hi : VR ρ ix' ix) (h : aindex P t x ix = some r) : ∃ r', (Instr.index t x' ix').run P w = .ok r' w ∧ VR ρ r' r := by
  unfold aindex at h
  split at h
  · rename_i kk i
    cases hi
    split at h
    · rename_i n e cs hd
      split at h
      · rename_i j hj
        rw [blt_eq] at h
        by_cases hlt : i < n
        · simp only [hlt, decide_true, cond_true] at h
          cases hx with
          | agg xs _ hs hv =>
            obtain ⟨y, h1, h2⟩ := apart_sound (w := w) (⟨hs, hv⟩ : VRs ρ xs cs) h
            exact ⟨y, by simp [Instr.index, run_underlying hd, asIntOf, run_sizeOf hj, hlt, h1], h2⟩
        · simp [hlt] at h
      · cases h
    · rename_i s hd
      cases hx
      split at h
      · rename_i b hb
        simp only [Option.some.injEq] at h
        subst h
        have hb' : s[i]? = some b := by rw [string_at]; exact hb
        exact ⟨_, by simp [Instr.index, run_underlying hd, asIntOf, hb'], .int _ _⟩
      · cases h
    · cases h
  · cases h

/-! ### slices -/

def abound (v : Option Value) (y dflt : Nat) : Option Nat :=
  match v with
  | none => some dflt
  | some (.int _ (.ofNat i)) => cond (Nat.ble i y) (some i) none
  | _ => none

def OR (ρ : Rn) : Option Value → Option Value → Prop
  | none, none => True
  | some a, some b => VR ρ a b
  | _, _ => False

theorem abound_some {P : Program} {ρ : Rn} {w : World} {v' v : Value} {y d m : Nat} {code : BoundsCode} (hv : VR ρ v' v) (h : abound (some v) y d = some m) : (Instr.sliceBound v' y code).run P w = .ok m w ∧ m ≤ y := by
  unfold abound at h
  split at h
  · rename_i h0; cases h0
  · rename_i kk i h0
    simp only [Option.some.injEq] at h0
    subst h0
    cases hv
    rw [ble_eq] at h
    by_cases hle : i ≤ y
    · simp only [hle, decide_true, cond_true, Option.some.injEq] at h
      subst h
      exact ⟨by simp [Instr.sliceBound, asIntOf, hle], hle⟩
    · simp [hle] at h
  · cases h

theorem abound_none {y d : Nat} : abound none y d = some d := rfl

/-- What 'sliceBounds' comes to. -/
theorem run_sliceBounds {P : Program} {ρ : Rn} {w : World} {isS : Bool} {len cap : Nat} {lo' hi' mx' lo hi mx : Option Value} (hlo : OR ρ lo' lo) (hhi : OR ρ hi' hi) (hmx : OR ρ mx' mx) {m h l M : Nat}
    (hM : M ≤ cap) (hMmx : mx = none → M = cap) (h0 : mx.isNone = true ∨ hi.isSome = true)
    (h1 : abound mx M M = some m) (h2 : abound hi m len = some h) (h3 : abound lo h 0 = some l) :
    (Instr.sliceBounds isS len cap lo' hi' mx').run P w = .ok (l, h, m) w ∧ (mx.isSome = true → m ≤ M) ∧ (hi.isSome = true → h ≤ m) ∧ (l ≤ h ∨ l = 0) := by
  have bnd : ∀ (v' v : Value) (y d q : Nat) (y' : Nat) (code : BoundsCode), VR ρ v' v → abound (some v) y d = some q → y ≤ y' → (Instr.sliceBound v' y' code).run P w = .ok q w := by
    intro v' v y d q y' code hv hq hy
    refine (abound_some (code := code) (d := d) hv ?_).1
    unfold abound at hq
    split at hq
    · rename_i hvi; cases hvi
    · rename_i kk i hvi
      simp only [Option.some.injEq] at hvi
      subst hvi
      rw [ble_eq] at hq
      by_cases hle : i ≤ y
      · simp only [hle, decide_true, cond_true] at hq
        simp only [abound, ble_eq]
        rw [decide_eq_true (show i ≤ y' by omega)]
        exact hq
      · simp [hle] at hq
    · cases hq
  have hl2 : l ≤ h ∨ l = 0 := by
    cases lo with
    | none => simp only [abound_none, Option.some.injEq] at h3; subst h3; exact .inr rfl
    | some u =>
      cases lo' with
      | none => exact hlo.elim
      | some v => exact .inl (abound_some (P := P) (w := w) (code := .sliceB) hlo h3).2
  have hln : lo' = none → l = 0 := fun e => by
    subst e
    cases lo with
    | none => simp only [abound_none, Option.some.injEq] at h3; exact h3.symm
    | some u => exact hlo.elim
  have hls : ∀ v code, lo' = some v → (Instr.sliceBound v h code).run P w = .ok l w := fun v code e => by
    subst e
    cases lo with
    | none => exact hlo.elim
    | some u => exact (abound_some hlo h3).1
  cases mx with
  | none =>
    cases mx' with
    | some v => exact hmx.elim
    | none =>
      simp only [abound_none, Option.some.injEq] at h1
      have hMc := hMmx rfl
      have hmc : m = cap := by omega
      subst hmc
      cases hi with
      | none =>
        cases hi' with
        | some v => exact hhi.elim
        | none =>
          simp only [abound_none, Option.some.injEq] at h2
          subst h2
          refine ⟨?_, by simp, by simp, hl2⟩
          unfold Instr.sliceBounds
          cases lo' with
          | none => simp [hln rfl]
          | some v => simp [hls v _ rfl]
      | some u =>
        cases hi' with
        | none => exact hhi.elim
        | some v =>
          have h5 := abound_some (P := P) (w := w) (code := if isS then .sliceAcap else .sliceAlen) hhi h2
          refine ⟨?_, by simp, fun _ => h5.2, hl2⟩
          have h51 := h5.1
          unfold Instr.sliceBounds
          cases lo' with
          | none => simp [h51, hln rfl]
          | some v => simp [h51, hls v _ rfl]
  | some um =>
    cases mx' with
    | none => exact hmx.elim
    | some vm =>
      have h6 := bnd vm um M M m cap (if isS then .slice3Acap else .slice3Alen) hmx h1 hM
      have h6' := (abound_some (P := P) (w := w) (code := .index) hmx h1).2
      cases hi with
      | none => simp at h0
      | some u =>
        cases hi' with
        | none => exact hhi.elim
        | some v =>
          have h5 := abound_some (P := P) (w := w) (code := .slice3B) hhi h2
          have h51 := h5.1
          refine ⟨?_, fun _ => h6', fun _ => h5.2, hl2⟩
          unfold Instr.sliceBounds
          cases lo' with
          | none => simp [h6, h51, hln rfl]
          | some v => simp [h6, h51, hls v _ rfl]

theorem bsub_eq (s : ByteArray) (l h : Nat) : s.extract l h = bsub s l h := by
  unfold bsub
  apply ByteArray.ext
  apply Array.ext'
  simp [ByteArray.data_extract, List.take_drop]

end Go.Ab

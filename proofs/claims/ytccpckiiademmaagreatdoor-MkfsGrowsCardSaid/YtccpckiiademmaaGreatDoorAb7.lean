/-
  ABSTRACT HEAPS, part 7: literals, make, append, copy, conversions.
-/
import Derived.Test.YtccpckiiademmaaGreatDoorAb6
set_option linter.unusedSimpArgs false
namespace Go.Ab

/-! ### literals -/

def aplaces (P : Program) (t : TypeId) : Option (List Value × (Nat → Option (Nat × Nat))) :=
  match azero P t with
  | some z => match P.underlying t with
    | some (.array _ e) => match P.info? e with
      | some ie => some (z.cells.toList, fun i => some (i * ie.size, ie.size))
      | none => none
    | some (.struct fields) => match fields.toList.mapM (fun f => (P.info? f.type).map fun i => (f.offset, i.size)) with
      | some places => some (z.cells.toList, fun i => places[i]?)
      | none => none
    | _ => none
  | none => none

def abuild (P : Program) (t : TypeId) (parts : List (Nat × Value)) : Option Value :=
  match aplaces P t with
  | some (z, place) => match afill place z parts with
    | some l => some (.agg l.toArray)
    | none => none
  | none => none

theorem abuild_sound {P : Program} {ρ : Rn} {w : World} {t : TypeId} {parts' : Array (Nat × Value)} {parts : List (Nat × Value)} {r : Value} (hp : PRl ρ parts'.toList parts) (h : abuild P t parts = some r) :
    ∃ r', (Instr.build t parts').run P w = .ok r' w ∧ VR ρ r' r := by
  unfold abuild at h
  split at h
  · rename_i z place hpl
    split at h
    · rename_i l hl
      simp only [Option.some.injEq] at h
      subst h
      unfold aplaces at hpl
      split at hpl
      · rename_i zv hz
        obtain ⟨⟨i, hi, hzi⟩, hzv⟩ := azero_spec hz
        split at hpl
        · rename_i n e hd
          split at hpl
          · rename_i ie hie
            simp only [Option.some.injEq, Prod.mk.injEq] at hpl
            obtain ⟨rfl, rfl⟩ := hpl
            obtain ⟨cells, h1, h2⟩ := afill_sound (hzv ρ).cells.toList hp hl
            refine ⟨.agg cells, run_build w t parts' cells ?_, .agg _ _ ?_ ?_⟩
            · simp only [Program.built, hi, hd, hzi, hie]
              simpa using h1
            · have := h2.toArray.1; simpa using this
            · have := h2.toArray.2; simpa using this
          · cases hpl
        · rename_i fields hd
          split at hpl
          · rename_i places hplaces
            simp only [Option.some.injEq, Prod.mk.injEq] at hpl
            obtain ⟨rfl, rfl⟩ := hpl
            obtain ⟨cells, h1, h2⟩ := afill_sound (hzv ρ).cells.toList hp hl
            refine ⟨.agg cells, run_build w t parts' cells ?_, .agg _ _ ?_ ?_⟩
            · simp only [Program.built, hi, hd, hzi, hplaces]
              simpa using h1
            · have := h2.toArray.1; simpa using this
            · have := h2.toArray.2; simpa using this
          · cases hpl
        · cases hpl
      · cases hpl
    · cases h
  · cases h

def abuildSlice (P : Program) (S : St) (t : TypeId) (len : Nat) (parts : List (Nat × Value)) : Option (Value × St) :=
  match P.underlying t with
  | some (.slice e) => match azero P e with
    | some z => match P.info? e with
      | some ie => cond (Nat.beq z.cells.size ie.size && Nat.ble (len * ie.size) 16777216)
        (match afill (fun i => some (i * ie.size, ie.size)) (arep z.cells.toList len) parts with
        | some l => some (.slice (some ⟨S.next, 0, none⟩) len len, S.new (.row .cls e l))
        | none => none) none
      | none => none
    | none => none
  | _ => none

theorem abuildSlice_sound {P : Program} {ro : Nat} {ρ : Rn} {S S' : St} {w : World} (hw : WR P ρ w S.h.get) (hf : FreeOn ρ S.next S'.next) (hro : ro ≤ S.next) {t : TypeId} {len : Nat} {parts' : Array (Nat × Value)} {parts : List (Nat × Value)} {r : Value}
    (hp : PRl ρ parts'.toList parts) (hlen : len < UNK) (h : abuildSlice P S t len parts = some (r, S')) : Done P ro ρ S w (Instr.buildSlice t len parts') r S' := by
  unfold abuildSlice at h
  split at h
  · rename_i e hd
    split at h
    · rename_i z hz
      split at h
      · rename_i ie hie
        obtain ⟨⟨i, hi, hzi⟩, hzv⟩ := azero_spec hz
        rw [hie] at hi
        obtain rfl : ie = i := by simpa using hi
        rw [ble_eq] at h
        cases hc : (Nat.beq z.cells.size ie.size && decide (len * ie.size ≤ 16777216)) with
        | false => simp [hc] at h
        | true =>
          simp only [hc, cond_true] at h
          simp only [Bool.and_eq_true, decide_eq_true_eq] at hc
          have hc1 := Nat.eq_of_beq_eq_true hc.1
          have hc2 := hc.2
          split at h
          · rename_i l hl
            simp only [Option.some.injEq, Prod.mk.injEq] at h
            obtain ⟨rfl, rfl⟩ := h
            obtain ⟨cells, h1, h2⟩ := afill_sound ((hzv ρ).cells.toList.arep len) hp hl
            have hb := BR.newRow (P := P) (hf _ (Nat.le_refl _) (by simp [St.new])) (l := ⟨w.heap.size, 0, len⟩) rfl (fl := .cls) (e := e) (e' := e) (fr := (0, 0)) h2 [] ⟨rfl, rfl⟩
            have hrange : len * ie.size ≠ 0 → ((Array.range (len * ie.size)).map (z.cells[· % z.cells.size]!)) = (arep z.cells.toList len).toArray := fun _ => range_map_arep z.cells len _ (by rw [hc1])
            have hempty : len * ie.size = 0 → (arep z.cells.toList len) = [] := fun h0 => List.eq_nil_of_length_eq_zero (by rw [arep_length]; simpa [hc1] using h0)
            refine ⟨.slice (some ⟨w.heap.size, 0, none⟩) len len, w.alloc (.cells cells e), rset ρ S.next ⟨w.heap.size, 0, len⟩, ?_, ?_, ?_⟩
            · have hn : ¬ (len * ie.size > 2 ^ 24) := by omega
              have hn' : ¬ (16777216 < len * ie.size) := by omega
              by_cases h0 : len * ie.size = 0
              · rw [hempty h0] at h1
                simp [Instr.buildSlice, run_underlying hd, run_sizeOf hie, h0, h1, newRow, Array.range_zero']
              · simp [Instr.buildSlice, run_underlying hd, run_sizeOf hie, h0, hn', run_zeroValue hie hzi, hrange h0, h1, newRow]
            · exact Post.newSt hw hf hro len _ (.cells cells e) rfl rfl rfl rfl (by simpa using hb)
            · exact .slice (l := ⟨w.heap.size, 0, len⟩) 0 _ _ _ (rset_same _ _ _) (.inl ⟨rfl, hlen⟩)
          · cases h
      · cases h
    · cases h
  · cases h

/-! ### make -/

def amakeSlice (P : Program) (S : St) (t : TypeId) (len cap : Value) : Option (Value × St) :=
  match len, cap with
  | .int _ (.ofNat n), .int _ (.ofNat c) =>
    match P.underlying t with
    | some (.slice e) => match azero P e with
      | some z => match P.info? e with
        | some ie => cond (Nat.beq z.cells.size ie.size && (Nat.ble n c && (Nat.ble (ie.bytes * c) 281474976710656 && Nat.ble c 281474976710656)))
          (some (.slice (some ⟨S.next, 0, none⟩) n c, S.new (.row .cls e (arep z.cells.toList c)))) none
        | none => none
      | none => none
    | _ => none
  | _, _ => none

theorem wrap64_small {n : Nat} (h : n ≤ 281474976710656) : IntKind.i64.wrap (n : Int) = n := by
  have e : (2 ^ IntKind.i64.bits : Int) = 18446744073709551616 := by decide
  have e2 : (2 ^ (IntKind.i64.bits - 1) : Int) = 9223372036854775808 := by decide
  unfold IntKind.wrap
  simp only [e, e2]
  have h1 : (n : Int) % 18446744073709551616 = n := by omega
  rw [h1]
  have h2 : decide ((n : Int) ≥ 9223372036854775808) = false := decide_eq_false (by omega)
  rw [h2, Bool.and_false]
  rfl

theorem amakeSlice_sound {P : Program} {ro : Nat} {ρ : Rn} {S S' : St} {w : World} (hw : WR P ρ w S.h.get) (hf : FreeOn ρ S.next S'.next) (hro : ro ≤ S.next) {t : TypeId} {len' cap' len cap r : Value}
    (hl : VR ρ len' len) (hc : VR ρ cap' cap) (h : amakeSlice P S t len cap = some (r, S')) : Done P ro ρ S w (Instr.makeSlice t len' cap') r S' := by
  unfold amakeSlice at h
  split at h
  · rename_i k1 n k2 c
    cases hl; cases hc
    split at h
    · rename_i e hd
      split at h
      · rename_i z hz
        split at h
        · rename_i ie hie
          obtain ⟨⟨i, hi, hzi⟩, hzv⟩ := azero_spec hz
          rw [hie] at hi
          obtain rfl : ie = i := by simpa using hi
          simp only [ble_eq] at h
          cases hcnd : (Nat.beq z.cells.size ie.size && (decide (n ≤ c) && (decide (ie.bytes * c ≤ 281474976710656) && decide (c ≤ 281474976710656)))) with
          | false => simp [hcnd] at h
          | true =>
            simp only [hcnd, cond_true, Option.some.injEq, Prod.mk.injEq] at h
            obtain ⟨rfl, rfl⟩ := h
            simp only [Bool.and_eq_true, decide_eq_true_eq] at hcnd
            have hc1 := Nat.eq_of_beq_eq_true hcnd.1
            obtain ⟨_, hnc, hbc, hcc⟩ := hcnd
            have hb := BR.newRow (P := P) (hf _ (Nat.le_refl _) (by simp [St.new])) (l := ⟨w.heap.size, 0, c⟩) rfl (fl := .cls) (e := e) (e' := e) (fr := (0, 0)) ((hzv ρ).cells.toList.arep c) [] ⟨rfl, rfl⟩
            have hw1 : IntKind.i64.wrap ((n : Nat) : Int) = n := wrap64_small (by omega)
            have hw2 : IntKind.i64.wrap ((c : Nat) : Int) = c := wrap64_small hcc
            have hbc' : ¬ ((281474976710656 : Int) < (ie.bytes : Int) * (c : Int)) := by
              intro hlt
              have h9 := Int.ofNat_le.2 hbc
              rw [Int.natCast_mul] at h9
              generalize ((ie.bytes : Int) * (c : Int)) = q at hlt h9
              omega
            have hrange : c * ie.size ≠ 0 → ((Array.range (c * ie.size)).map (z.cells[· % z.cells.size]!)) = (arep z.cells.toList c).toArray := fun _ => range_map_arep z.cells c _ (by rw [hc1])
            have hempty : c * ie.size = 0 → (arep z.cells.toList c) = [] := fun h0 => List.eq_nil_of_length_eq_zero (by rw [arep_length]; simpa [hc1] using h0)
            refine ⟨.slice (some ⟨w.heap.size, 0, none⟩) n c, w.alloc (.cells (arep z.cells.toList c).toArray e), rset ρ S.next ⟨w.heap.size, 0, c⟩, ?_, ?_, ?_⟩
            · have hneg1 : ¬ ((c : Int) < 0) := by omega
              have hneg2 : ¬ ((n : Int) < 0) := by omega
              have hneg3 : ¬ ((c : Int) < (n : Int)) := by omega
              by_cases h0 : c * ie.size = 0
              · have h3 := hempty h0
                simp [Instr.makeSlice, run_underlying hd, asInt, asIntOf, run_typeInfo hie, run_sizeOf hie, hw1, hw2, hneg1, hneg2, hneg3, hbc', h0, h3, newRow, Array.range_zero']
              · simp [Instr.makeSlice, run_underlying hd, asInt, asIntOf, run_typeInfo hie, run_sizeOf hie, hw1, hw2, hneg1, hneg2, hneg3, hbc', h0, run_zeroValue hie hzi, hrange h0, newRow]
            · exact Post.newSt hw hf hro c _ (.cells (arep z.cells.toList c).toArray e) rfl rfl rfl rfl (by simpa using hb)
            · exact .slice (l := ⟨w.heap.size, 0, c⟩) 0 _ _ _ (rset_same _ _ _) (.inl ⟨rfl, by unfold UNK; omega⟩)
        · cases h
      · cases h
    · cases h
  · cases h

def amakeMap (P : Program) (S : St) (t : TypeId) (reserve : Option Value) : Option (Value × St) :=
  match reserve with
  | none => some (.map (some S.next), S.new (.map [] 0))
  | some (.int _ _) => match P.underlying t with
    | some (.map _ _) => some (.map (some S.next), S.new (.map [] 0))
    | _ => none
  | _ => none

theorem amakeMap_sound {P : Program} {ro : Nat} {ρ : Rn} {S S' : St} {w : World} (hw : WR P ρ w S.h.get) (hf : FreeOn ρ S.next S'.next) (hro : ro ≤ S.next) {t : TypeId} {res' res : Option Value} {r : Value}
    (hr : OR ρ res' res) (h : amakeMap P S t res = some (r, S')) : Done P ro ρ S w (Instr.makeMap t res') r S' := by
  have fin : (r, S') = (.map (some S.next), S.new (.map [] 0)) → (Instr.makeMap t res').run P w = .ok (.map (some w.heap.size)) (w.alloc (.map #[] 0)) → Done P ro ρ S w (Instr.makeMap t res') r S' := by
    intro he hrun
    simp only [Prod.mk.injEq] at he
    obtain ⟨rfl, rfl⟩ := he
    refine ⟨_, _, rset ρ S.next ⟨w.heap.size, 0, 0⟩, hrun, ?_, .map (l := ⟨w.heap.size, 0, 0⟩) (rset_same _ _ _)⟩
    exact Post.newSt hw hf hro 0 _ (.map #[] 0) rfl rfl rfl rfl ⟨#[], rfl, rfl, fun i e he => by simp at he⟩
  unfold amakeMap at h
  split at h
  · cases res' with
    | some v => exact hr.elim
    | none =>
      simp only [Option.some.injEq] at h
      exact fin h.symm (by simp [Instr.makeMap])
  · cases res' with
    | none => exact hr.elim
    | some v =>
      split at h
      · rename_i a b hd
        simp only [Option.some.injEq] at h
        cases hr
        exact fin h.symm (by simp [Instr.makeMap, run_underlying hd, asInt, asIntOf])
      · cases h
  · cases h

/-! ### what is appended, or copied -/

def alen (x : Value) : Option Nat :=
  match x with
  | .slice _ n _ => some n
  | .string s => some s.data.toList.length
  | _ => none

theorem alen_sound {P : Program} {ρ : Rn} {w : World} {x' x : Value} {n : Nat} (hx : VR ρ x' x) (h : alen x = some n) : (Builtin.lenOf x').run P w = .ok n w := by
  cases hx <;> simp only [alen, Option.some.injEq] at h <;> first | (cases h; done) | (subst h; simp [Builtin.lenOf]; done) | (subst h; simp only [Builtin.lenOf, Array.length_toList]; rfl)

def byteCell (b : UInt8) : Value := .int .u8 b.toNat

def acells (H : Tr Blk) (size n : Nat) (x : Value) : Option (List Value) :=
  match x with
  | .slice none _ _ => some []
  | .slice (some ⟨b, off, none⟩) _ _ => cond (Nat.beq (n * size) 0) (some []) (cond (Nat.beq b VOID) none (match H.get b with
    | some (.row _ _ cs) => cellsAt cs off (n * size)
    | _ => none))
  | .string s => some ((s.data.toList.take n).map byteCell)
  | _ => none

theorem acells_sound {P : Program} {ρ : Rn} {w : World} {H : Tr Blk} (hw : WR P ρ w H.get) {size n : Nat} {x' x : Value} {us : List Value} (hx : VR ρ x' x) (h : acells H size n x = some us) :
    ∃ vs : List Value, VRl ρ vs us ∧ ∀ w1 : World, w1.heap = w.heap → (Builtin.firstCells size n x').run P w1 = .ok vs.toArray w1 := by
  unfold acells at h
  split at h
  · cases hx
    simp only [Option.some.injEq] at h
    subst h
    exact ⟨[], .nil ρ, fun w1 _ => by simp [Builtin.firstCells]⟩
  · rename_i b off k c
    rw [cond_beq] at h
    by_cases h0 : n * size = 0
    · simp only [h0, if_true, Option.some.injEq] at h
      subst h
      refine ⟨[], .nil ρ, fun w1 _ => ?_⟩
      cases hx <;> simp [Builtin.firstCells, h0, loadCells, loadCellsFrom]
    · simp only [h0, if_false, cond_beq] at h
      by_cases hv : b = VOID
      · simp [hv] at h
      simp only [hv, if_false] at h
      split at h
      · rename_i fl e cs hb
        cases hx with
        | @slice _ l _ _ c0 _ hl hc =>
          obtain ⟨l', h1, h2⟩ := hw.blk b _ hb
          rw [hl] at h1
          obtain rfl : l = l' := by simpa using h1
          obtain ⟨vs, h3, h4, h5⟩ := row_cells h2 h
          refine ⟨vs, h3, fun w1 hw1 => ?_⟩
          exact run_firstCells_some w1 size n _ k c0 vs h4 (fun j v hj => by
            have := h5 j v hj
            unfold World.cell? at this ⊢
            rw [hw1]; exact this)
        | void a c0 => exact absurd rfl hv
      · cases h
  · rename_i s
    cases hx
    simp only [Option.some.injEq] at h
    subst h
    refine ⟨(s.data.toList.take n).map byteCell, ⟨rfl, fun i hi => ?_⟩, fun w1 _ => ?_⟩
    · have : ((s.data.toList.take n).map byteCell).getD i undef = byteCell ((s.data.toList.take n)[i]'(by simpa using hi)) := by
        rw [List.getD_eq_getElem?_getD, List.getElem?_eq_getElem hi]; simp
      rw [this]; exact .int _ _
    · simp only [Builtin.firstCells, Sem.run_pure]
      congr 1
      apply Array.ext'
      simp [ByteArray.data_extract, List.map_take]
      rfl
  · cases h

end Go.Ab

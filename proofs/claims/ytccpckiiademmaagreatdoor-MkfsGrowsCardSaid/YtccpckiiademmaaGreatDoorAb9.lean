/-
  ABSTRACT HEAPS, part 9: copy, conversions, maps, lengths.
-/
import Derived.Test.YtccpckiiademmaaGreatDoorAb8
set_option linter.unusedSimpArgs false
namespace Go.Ab

def acopy (P : Program) (ro : Nat) (S : St) (tD : TypeId) (dst src : Value) : Option (Value × St) :=
  match P.underlying tD with
  | some (.slice e) => match P.info? e with
    | some i => match alen src with
      | some m =>
        match dst with
        | .slice none n _ => match acells S.h i.size (min m n) src with
          | some _ => some (.int .i64 (min m n : Nat), S)
          | none => none
        | .slice (some ⟨b, off, none⟩) n _ => match acells S.h i.size (min m n) src with
          | some us => cond (Nat.beq b VOID && Nat.beq us.length 0) (some (.int .i64 (min m n : Nat), S)) (match awrite ro S b off us with
            | some S' => cond (Nat.beq b VOID) none (some (.int .i64 (min m n : Nat), S'))
            | none => none)
          | none => none
        | _ => none
      | none => none
    | none => none
  | _ => none

theorem acopy_sound {P : Program} {ro : Nat} {ρ : Rn} {S S' : St} {w : World} (hw : WR P ρ w S.h.get) {tD tX ty : TypeId} {d' d x' x r : Value}
    (hd : VR ρ d' d) (hx : VR ρ x' x) (h : acopy P ro S tD d x = some (r, S')) : Done P ro ρ S w (Builtin.copy_ #[tD, tX] ty #[d', x']) r S' := by
  unfold acopy at h
  split at h
  · rename_i e hD
    split at h
    · rename_i i hi
      split at h
      · rename_i m hm
        have hlen := alen_sound (P := P) (w := w) hx hm
        split at h
        · rename_i n c
          cases hd
          split at h
          · rename_i us hus
            simp only [Option.some.injEq, Prod.mk.injEq] at h
            obtain ⟨rfl, rfl⟩ := h
            obtain ⟨vs, hvs, hrun⟩ := acells_sound hw hx hus
            have hr := hrun w rfl
            exact Done.pure hw ⟨.int .i64 ((min m n : Nat) : Int), by simp [Builtin.copy_, run_underlying hD, run_sizeOf hi, hlen, hr, goInt], .int _ _⟩
          · cases h
        · rename_i b off n c
          split at h
          · rename_i us hus
            obtain ⟨vs, hvs, hrun⟩ := acells_sound hw hx hus
            have hr := hrun w rfl
            cases hc : (Nat.beq b VOID && Nat.beq us.length 0) with
            | true =>
              simp only [hc, cond_true, Option.some.injEq, Prod.mk.injEq] at h
              obtain ⟨rfl, rfl⟩ := h
              simp only [Bool.and_eq_true] at hc
              have h0 := Nat.eq_of_beq_eq_true hc.2
              have hv0 : vs = [] := List.eq_nil_of_length_eq_zero (by rw [hvs.1]; exact h0)
              subst hv0
              refine Done.pure hw ⟨.int .i64 ((min m n : Nat) : Int), ?_, .int _ _⟩
              rcases VR.slice_cases hd with ⟨l, c0, hl, rfl, hcr⟩ | ⟨_, _, rfl, _, a, c0, rfl⟩
              · simp [Builtin.copy_, run_underlying hD, run_sizeOf hi, hlen, hr, goInt, storeCells]
              · simp only [Nat.min_zero] at hr
                simp [Builtin.copy_, run_underlying hD, run_sizeOf hi, hlen, hr, goInt, storeCells]
            | false =>
              simp only [hc, cond_false] at h
              split at h
              · rename_i S1 haw
                rw [cond_beq] at h
                by_cases hv : b = VOID
                · simp [hv] at h
                · simp only [hv, if_false, Option.some.injEq, Prod.mk.injEq] at h
                  obtain ⟨rfl, rfl⟩ := h
                  rcases VR.slice_cases hd with ⟨l, c0, hl, rfl, hcr⟩ | ⟨hbv, _⟩
                  · obtain ⟨w', h1, h2⟩ := awrite_sound hw hl hvs haw
                    exact ⟨.int .i64 ((min m n : Nat) : Int), w', ρ, by simp [Builtin.copy_, run_underlying hD, run_sizeOf hi, hlen, hr, goInt, h1], h2, .int _ _⟩
                  · exact absurd hbv hv
              · cases h
          · cases h
        · cases h
      · cases h
    · cases h
  · cases h

/-! ### conversions -/

def abytes : List Value → Option (List UInt8)
  | [] => some []
  | .int .u8 (.ofNat n) :: r => match abytes r with
    | some l => some (UInt8.ofNat n :: l)
    | none => none
  | _ => none

theorem abytes_sound {ρ : Rn} : ∀ {vs us : List Value} {l : List UInt8}, VRl ρ vs us → abytes us = some l → ∃ ns : List Int, vs = ns.map (Value.int .u8) ∧ ns.map (fun n => UInt8.ofNat n.toNat) = l
  | vs, [], l, hv, h => by
    have : vs = [] := List.eq_nil_of_length_eq_zero (by simpa using hv.1)
    subst this
    simp only [abytes, Option.some.injEq] at h
    subst h
    exact ⟨[], rfl, rfl⟩
  | [], u :: us, l, hv, h => by have := hv.1; simp at this
  | v :: vs, u :: us, l, hv, h => by
    have h0 := hv.getD 0
    simp at h0
    have ht : VRl ρ vs us := by have := hv.drop 1; simpa using this
    unfold abytes at h
    split at h
    · rename_i heq; cases heq
    · rename_i n r heq
      simp only [List.cons.injEq] at heq
      obtain ⟨rfl, rfl⟩ := heq
      cases h0
      split at h
      · rename_i l' hl'
        simp only [Option.some.injEq] at h
        subst h
        obtain ⟨ns, rfl, h2⟩ := abytes_sound ht hl'
        exact ⟨(Int.ofNat n) :: ns, rfl, by simp [h2]⟩
      · cases h
    · cases h

def aconv (P : Program) (S : St) (src dst : TypeId) (x : Value) : Option (Value × St) :=
  match P.underlying src with
  | none => none
  | some s =>
    match P.underlying dst with
    | none => none
    | some d =>
      match d, x with
      | .int k, .int _ n => some (.int k (k.wrap n), S)
      | .string, .string b => some (.string b, S)
      | .slice e, .string b => match P.underlying e with
        | some (.int .u8) => match s with
          | .string => some (.slice (some ⟨S.next, 0, none⟩) b.data.toList.length UNK, S.new (.row .arg e (b.data.toList.map byteCell)))
          | _ => none
        | _ => none
      | .string, .slice a n c => match s with
        | .slice e => match P.underlying e with
          | some (.int .u8) => match acells S.h 1 n (.slice a n c) with
            | some cs => match abytes cs with
              | some l => some (.string ⟨l.toArray⟩, S)
              | none => none
            | none => none
          | _ => none
        | _ => none
      | _, _ => none

theorem foldl_push_bytes' : ∀ (ns : List Int) (r : ByteArray), ns.foldl (fun r n => r.push (UInt8.ofNat n.toNat)) r = ⟨r.data ++ (ns.map (fun n => UInt8.ofNat n.toNat)).toArray⟩
  | [], r => by simp
  | n :: l, r => by
    simp only [List.map_cons, List.foldl_cons]
    rw [foldl_push_bytes' l]
    simp [ByteArray.push]

theorem aconv_sound {P : Program} {ro : Nat} {ρ : Rn} {S S' : St} {w : World} (hw : WR P ρ w S.h.get) (hf : FreeOn ρ S.next S'.next) (hro : ro ≤ S.next) {src dst : TypeId} {x' x r : Value}
    (hx : VR ρ x' x) (h : aconv P S src dst x = some (r, S')) : Done P ro ρ S w (convert src dst x') r S' := by
  unfold aconv at h
  split at h
  · cases h
  · rename_i s hs
    split at h
    · cases h
    · rename_i d hd
      split at h
      · rename_i k k' n
        cases hx
        simp only [Option.some.injEq, Prod.mk.injEq] at h
        obtain ⟨rfl, rfl⟩ := h
        exact Done.pure hw ⟨.int k (k.wrap n), by simp [convert, run_underlying hs, run_underlying hd, Conv.intToInt], .int _ _⟩
      · rename_i b
        cases hx
        simp only [Option.some.injEq, Prod.mk.injEq] at h
        obtain ⟨rfl, rfl⟩ := h
        exact Done.pure hw ⟨.string b, by simp [convert, run_underlying hs, run_underlying hd], .string _⟩
      · rename_i e b
        cases hx
        split at h
        · rename_i he
          split at h
          · simp only [Option.some.injEq, Prod.mk.injEq] at h
            obtain ⟨rfl, rfl⟩ := h
            have hrun := run_bytes_of_string w src dst e b hs hd he
            have hsz : b.data.toList.length = b.size := by rw [Array.length_toList]; rfl
            have hge : b.size ≤ grownCap w b.size 0 e := grownCap_ge
            have hrow : bytesRow b (grownCap w b.size 0 e) = (b.data.toList.map byteCell ++ List.replicate (grownCap w b.size 0 e - b.size) (Value.int .u8 0)).toArray := by
              apply Array.ext'
              simp [bytesRow]
              intro a _; rfl
            rw [hrow] at hrun
            have hbr := BR.newRow (P := P) (hf _ (Nat.le_refl _) (by simp [St.new])) (l := ⟨w.heap.size, 0, grownCap w b.size 0 e⟩) rfl (fl := .arg) (e := e) (e' := e)
              (fr := ((b.data.toList.map byteCell ++ List.replicate (grownCap w b.size 0 e - b.size) (Value.int .u8 0)).toArray.size, (b.data.toList.map byteCell ++ List.replicate (grownCap w b.size 0 e - b.size) (Value.int .u8 0)).toArray.size + 1))
              (vs := b.data.toList.map byteCell) (us := b.data.toList.map byteCell) ⟨rfl, fun j hj => by
                have : (b.data.toList.map byteCell).getD j undef = byteCell (b.data.toList[j]'(by simpa using hj)) := by
                  rw [List.getD_eq_getElem?_getD, List.getElem?_eq_getElem hj]; simp
                rw [this]; exact .int _ _⟩ (List.replicate (grownCap w b.size 0 e - b.size) (Value.int .u8 0)) trivial
            refine ⟨_, _, rset ρ S.next ⟨w.heap.size, 0, grownCap w b.size 0 e⟩, hrun, ?_, ?_⟩
            · exact Post.newSt hw hf hro _ _ _ rfl rfl rfl rfl hbr
            · rw [hsz]
              exact .slice (l := ⟨w.heap.size, 0, grownCap w b.size 0 e⟩) 0 _ _ _ (rset_same _ _ _) (.inr ⟨rfl, hge, fun _ => rfl⟩)
          · cases h
        · cases h
      · rename_i a n c
        split at h
        · rename_i e
          split at h
          · rename_i he
            split at h
            · rename_i cs hcs
              split at h
              · rename_i l hl
                simp only [Option.some.injEq, Prod.mk.injEq] at h
                obtain ⟨rfl, rfl⟩ := h
                obtain ⟨vs, hvs, hrun⟩ := acells_sound hw hx hcs
                have hr := hrun w rfl
                obtain ⟨ns, rfl, hns⟩ := abytes_sound hvs hl
                refine Done.pure hw ⟨.string ⟨l.toArray⟩, ?_, .string _⟩
                have hshape : (∃ n0 c0, x' = .slice none n0 c0) ∨ ∃ a0 c0, x' = .slice (some a0) n c0 := by
                  cases hx with
                  | nilslice => exact .inl ⟨_, _, rfl⟩
                  | slice => exact .inr ⟨_, _, rfl⟩
                  | void => exact .inr ⟨_, _, rfl⟩
                rcases hshape with ⟨n0, c0, rfl⟩ | ⟨a0, c0, rfl⟩
                · rw [run_convert_bytes_string w src dst e none n0 c0 hs he hd]
                  have : ns = [] := by
                    simp [Builtin.firstCells] at hr
                    exact hr
                  subst this
                  simp at hns
                  subst hns
                  simp [Conv.bytesToString]
                  rfl
                · rw [run_convert_bytes_string w src dst e (some a0) n c0 hs he hd]
                  have hr2 : (loadCells a0 n).run P w = .ok (ns.map (Value.int .u8)).toArray w := by
                    simpa [Builtin.firstCells] using hr
                  rw [run_bytesToString w a0 n c0 ns hr2, foldl_push_bytes', hns]
                  simp
              · cases h
            · cases h
          · cases h
        · cases h
      · cases h

/-! ### maps -/

def plainKey (d : TypeDesc) : Bool :=
  match d with
  | .int _ | .string | .bool => true
  | _ => false

theorem run_checkKey {P : Program} {w : World} {t : TypeId} {d : TypeDesc} (hd : P.underlying t = some d) (hp : plainKey d = true) (b : Bool) (n : Nat) (v : Value) : (Instr.checkKey b (n + 1) t v).run P w = .ok () w := by
  cases d <;> simp [plainKey] at hp <;> simp [Instr.checkKey, run_underlying hd]

/-- Entries that are told by others. -/
def MRl (ρ : Rn) (es' es : List MapEntry) : Prop := es'.length = es.length ∧ ∀ (i : Nat) (e : MapEntry), es[i]? = some e → ∃ e', es'[i]? = some e' ∧ MR ρ e' e

theorem MRl.tail {ρ : Rn} {e' e : MapEntry} {es' es : List MapEntry} (h : MRl ρ (e' :: es') (e :: es)) : MR ρ e' e ∧ MRl ρ es' es := by
  refine ⟨?_, by simpa using h.1, fun i x hx => ?_⟩
  · obtain ⟨x, h1, h2⟩ := h.2 0 e rfl
    simp at h1; subst h1; exact h2
  · obtain ⟨y, h1, h2⟩ := h.2 (i + 1) x (by simpa using hx)
    exact ⟨y, by simpa using h1, h2⟩

theorem findNow_sound {ρ : Rn} (d : TypeDesc) (k : Value) : ∀ (es es' : List MapEntry) (i : Nat) (r : Option (Nat × Value)), MRl ρ es' es → Instr.findNow d k es i = some r →
    ∃ r', Instr.findNow d k es' i = some r' ∧ (match r, r' with
      | none, none => True
      | some (j, u), some (j', v) => j = j' ∧ VR ρ v u ∧ i ≤ j ∧ ∃ e', es'[j - i]? = some e' ∧ Instr.sameNow d k e'.key = some true
      | _, _ => False)
  | [], es', i, r, hm, h => by
    have : es' = [] := List.eq_nil_of_length_eq_zero (by simpa using hm.1)
    subst this
    simp only [Instr.findNow, Option.some.injEq] at h
    subst h
    exact ⟨none, rfl, trivial⟩
  | e :: es, [], i, r, hm, h => by have := hm.1; simp at this
  | e :: es, e' :: es', i, r, hm, h => by
    obtain ⟨⟨hk, hv, hb⟩, ht⟩ := hm.tail
    simp only [Instr.findNow] at h ⊢
    rw [hk]
    cases hs : Instr.sameNow d k e.key with
    | none => simp [hs] at h
    | some b =>
      cases b with
      | true =>
        simp only [hs, Option.some.injEq] at h
        subst h
        exact ⟨some (i, e'.val), rfl, rfl, hv, Nat.le_refl _, e', by simp, by rw [hk]; exact hs⟩
      | false =>
        simp only [hs] at h
        obtain ⟨r', h1, h2⟩ := findNow_sound d k es es' (i + 1) r ht h
        refine ⟨r', h1, ?_⟩
        cases r with
        | none =>
          cases r' with
          | none => trivial
          | some y => exact h2.elim
        | some x =>
          cases r' with
          | none => exact h2.elim
          | some y =>
            obtain ⟨j, u⟩ := x
            obtain ⟨j', v⟩ := y
            obtain ⟨h3, h4, h5, e2, h6, h7⟩ := h2
            refine ⟨h3, h4, by omega, e2, ?_, h7⟩
            rw [show j - i = (j - (i + 1)) + 1 by omega]
            simpa using h6

def amapOf (H : Tr Blk) (x : Value) : Option (List MapEntry × Option Nat) :=
  match x with
  | .map none => some ([], none)
  | .map (some b) => match H.get b with
    | some (.map es _) => some (es, some b)
    | _ => none
  | _ => none

def plainVal (k : Value) : Bool :=
  match k with
  | .int _ _ | .string _ | .bool _ => true
  | _ => false

def alookup (P : Program) (H : Tr Blk) (t : TypeId) (x k : Value) (ok : Bool) : Option Value :=
  match P.underlying t with
  | some (.map kt et) => match P.underlying kt with
    | some d => cond (plainKey d && plainVal k)
      (match amapOf H x with
      | some (es, _) => match Instr.findNow d k es 0 with
        | some (some (_, v)) => some (cond ok (.tuple #[v, .bool true]) v)
        | some none => match azero P et with
          | some z => some (cond ok (.tuple #[z, .bool false]) z)
          | none => none
        | none => none
      | none => none) none
    | none => none
  | _ => none

theorem plainVal_eq {ρ : Rn} {k' k : Value} (hk : VR ρ k' k) (h : plainVal k = true) : k' = k := by
  cases hk <;> first | rfl | cases h

theorem tuple2 {ρ : Rn} {v u : Value} (h : VR ρ v u) (b : Bool) : VR ρ (.tuple #[v, .bool b]) (.tuple #[u, .bool b]) :=
  .tuple _ _ rfl (fun i hi => by
    have : i = 0 ∨ i = 1 := by simp at hi; omega
    rcases this with rfl | rfl
    · simpa using h
    · simpa using VR.bool b)

/-- What a map's block is. -/
theorem map_of {P : Program} {ρ : Rn} {w : World} {H : Tr Blk} (hw : WR P ρ w H.get) {b : Nat} {l : Loc} (hl : ρ b = some l) {es : List MapEntry} {clock : Nat} (hb : H.get b = some (.map es clock)) :
    ∃ es' : Array MapEntry, w.heap[l.blk]? = some (.map es' clock) ∧ MRl ρ es'.toList es := by
  obtain ⟨l', h1, h2⟩ := hw.blk b _ hb
  rw [hl] at h1
  obtain rfl : l = l' := by simpa using h1
  obtain ⟨es', ho, hs, hc⟩ := h2
  exact ⟨es', ho, by simpa using hs, fun i e hi => by
    obtain ⟨e', h3, h4⟩ := hc i e hi
    exact ⟨e', by simpa using h3, h4⟩⟩

theorem run_getObj {P : Program} {w : World} {r : Nat} {es : Array MapEntry} {c : Nat} (h : w.heap[r]? = some (.map es c)) : (getObj r).run P w = .ok (.map es c) w := by
  simp [getObj, Sem.run, h]

theorem run_setObj {P : Program} {w : World} {r : Nat} {es : Array MapEntry} {c : Nat} (h : w.heap[r]? = some (.map es c)) (o : Obj) : (setObj r o).run P w = .ok () { w with heap := w.heap.setIfInBounds r o } := by
  simp [setObj, Sem.run, h]

theorem alookup_sound {P : Program} {ρ : Rn} {w : World} {H : Tr Blk} (hw : WR P ρ w H.get) {t : TypeId} {x' x k' k r : Value} {ok : Bool} (hx : VR ρ x' x) (hk : VR ρ k' k) (h : alookup P H t x k ok = some r) :
    ∃ r', (Instr.lookup t x' k' ok).run P w = .ok r' w ∧ VR ρ r' r := by
  unfold alookup at h
  split at h
  · rename_i kt et ht
    split at h
    · rename_i d hd
      cases hc : (plainKey d && plainVal k) with
      | false => simp [hc] at h
      | true =>
        simp only [hc, cond_true] at h
        simp only [Bool.and_eq_true] at hc
        obtain rfl := plainVal_eq hk hc.2
        split at h
        · rename_i es ob hes
          have key : ∃ es' : Array MapEntry, ((x' = .map none ∧ es' = #[]) ∨ ∃ b c, x' = .map (some b) ∧ w.heap[b]? = some (.map es' c)) ∧ MRl ρ es'.toList es := by
            unfold amapOf at hes
            split at hes
            · cases hx
              simp only [Option.some.injEq, Prod.mk.injEq] at hes
              obtain ⟨rfl, rfl⟩ := hes
              exact ⟨#[], .inl ⟨rfl, rfl⟩, rfl, fun i e he => by simp at he⟩
            · rename_i b
              split at hes
              · rename_i es0 clock hb
                simp only [Option.some.injEq, Prod.mk.injEq] at hes
                obtain ⟨rfl, rfl⟩ := hes
                cases hx with
                | @map _ l hl =>
                  obtain ⟨es', h1, h2⟩ := map_of hw hl hb
                  exact ⟨es', .inr ⟨l.blk, clock, rfl, h1⟩, h2⟩
              · cases hes
            · cases hes
          obtain ⟨es', hrun, hm⟩ := key
          split at h
          · rename_i j v hfn
            simp only [Option.some.injEq] at h
            obtain ⟨r', h1, h2⟩ := findNow_sound d k' es es'.toList 0 _ hm hfn
            cases r' with
            | none => exact h2.elim
            | some y =>
              obtain ⟨j', u⟩ := y
              obtain ⟨_, hv, _⟩ := h2
              refine ⟨cond ok (.tuple #[u, .bool true]) u, ?_, ?_⟩
              · rcases hrun with ⟨rfl, rfl⟩ | ⟨b, c, rfl, hb⟩
                · simp [Instr.findNow] at h1
                · cases ok <;> simp [Instr.lookup, run_underlying ht, run_getObj hb, run_checkKey hd hc.1, Instr.findKey, run_underlying hd, h1]
              · subst h
                cases ok
                · exact hv
                · exact tuple2 hv true
          · rename_i hfn
            split at h
            · rename_i z hz
              simp only [Option.some.injEq] at h
              obtain ⟨⟨i, hi, hzi⟩, hzv⟩ := azero_spec hz
              obtain ⟨r', h1, h2⟩ := findNow_sound d k' es es'.toList 0 _ hm hfn
              cases r' with
              | some y => exact h2.elim
              | none =>
                refine ⟨cond ok (.tuple #[z, .bool false]) z, ?_, ?_⟩
                · rcases hrun with ⟨rfl, rfl⟩ | ⟨b, c, rfl, hb⟩
                  · cases ok <;> simp [Instr.lookup, run_underlying ht, run_checkKey hd hc.1, Instr.findKey, run_underlying hd, Instr.findNow, run_zeroValue hi hzi]
                  · cases ok <;> simp [Instr.lookup, run_underlying ht, run_getObj hb, run_checkKey hd hc.1, Instr.findKey, run_underlying hd, h1, run_zeroValue hi hzi]
                · subst h
                  cases ok
                  · exact hzv ρ
                  · exact tuple2 (hzv ρ) false
            · cases h
          · cases h
        · cases h
    · cases h
  · cases h

/-- A map's block turned. -/
theorem Post.mapTurn {P : Program} {ro : Nat} {ρ : Rn} {w : World} {S : St} (hw : WR P ρ w S.h.get) {b : Nat} {l : Loc} (hl : ρ b = some l) (hro : ro ≤ b) {es : List MapEntry} {clock : Nat} (hb : S.h.get b = some (.map es clock)) {es' : Array MapEntry} (ho : w.heap[l.blk]? = some (.map es' clock))
    {fs : List MapEntry} {fs' : Array MapEntry} (hm : MRl ρ fs'.toList fs) (c : Nat) :
    Post P ro ρ S.h.get S.next w ρ (S.h.set b (some (.map fs c))).get S.next { w with heap := w.heap.setIfInBounds l.blk (.map fs' c) } := by
  have hlt : l.blk < w.heap.size := (Array.getElem?_eq_some_iff.1 ho).1
  rw [get_set_eq]
  refine Post.turn hw hb hl hro _ (by simp) rfl rfl rfl ?_ (fun B hB => by rw [Array.getElem?_setIfInBounds]; rw [if_neg (fun e => hB e.symm)])
  refine ⟨fs', ?_, by simpa using hm.1, fun i e hi => by obtain ⟨e', h3, h4⟩ := hm.2 i e hi; exact ⟨e', by simpa using h3, h4⟩⟩
  rw [Array.getElem?_setIfInBounds, if_pos rfl, if_pos hlt]

def amapUpdate (P : Program) (ro : Nat) (S : St) (t : TypeId) (m k v : Value) : Option St :=
  match m with
  | .map (some b) =>
    match P.underlying t with
    | some (.map kt _) => match P.underlying kt with
      | some d => match S.h.get b with
        | some (.map es clock) =>
          cond (plainKey d && (plainVal k && Nat.ble ro b))
            (match Instr.findNow d k es 0 with
            | some (some (i, _)) => some ⟨S.h.set b (some (.map (es.modify i fun e => { e with key := k, val := v }) clock)), S.next⟩
            | some none => some ⟨S.h.set b (some (.map (es ++ [{ key := k, val := v, born := clock }]) (clock + 1))), S.next⟩
            | none => none) none
        | _ => none
      | none => none
    | _ => none
  | _ => none

theorem sameBits_of_sameNow {d : TypeDesc} {k a : Value} (h : Instr.sameNow d k a = some true) : Instr.sameBits 10000 a k = true ∧ a = k := by
  unfold Instr.sameNow at h
  split at h
  · rename_i j x k' y
    split at h
    · rename_i hk
      simp only [Option.some.injEq, beq_iff_eq] at h
      subst hk; subst h
      exact ⟨by simp [Instr.sameBits], rfl⟩
    · cases h
  · rename_i x y
    simp only [Option.some.injEq] at h
    have e : x = y := by
      rw [beq_toListBytes] at h
      have h2 := eq_of_beq h
      rw [ByteArray.toList_eq, ByteArray.toList_eq] at h2
      exact ByteArray.ext (Array.ext' h2)
    subst e
    exact ⟨h, rfl⟩
  · rename_i x y
    simp only [Option.some.injEq, beq_iff_eq] at h
    subst h
    exact ⟨by simp [Instr.sameBits], rfl⟩
  · cases h

theorem amapUpdate_sound {P : Program} {ro : Nat} {ρ : Rn} {S S' : St} {w : World} (hw : WR P ρ w S.h.get) {t : TypeId} {m' m k' k v' v : Value} (hm : VR ρ m' m) (hk : VR ρ k' k) (hv : VR ρ v' v) (h : amapUpdate P ro S t m k v = some S') :
    ∃ w', (Instr.mapUpdate t m' k' v').run P w = .ok () w' ∧ Post P ro ρ S.h.get S.next w ρ S'.h.get S'.next w' := by
  unfold amapUpdate at h
  split at h
  · rename_i b
    split at h
    · rename_i kt et ht
      split at h
      · rename_i d hd
        split at h
        · rename_i es clock hb
          rw [ble_eq] at h
          cases hc : (plainKey d && (plainVal k && decide (ro ≤ b))) with
          | false => simp [hc] at h
          | true =>
            simp only [hc, cond_true] at h
            simp only [Bool.and_eq_true, decide_eq_true_eq] at hc
            obtain rfl := plainVal_eq hk hc.2.1
            cases hm with
            | @map _ l hl =>
              obtain ⟨es', ho, hmr⟩ := map_of hw hl hb
              split at h
              · rename_i i u hfn
                simp only [Option.some.injEq] at h
                subst h
                obtain ⟨r', h1, h2⟩ := findNow_sound d k' es es'.toList 0 _ hmr hfn
                cases r' with
                | none => exact h2.elim
                | some y =>
                  obtain ⟨j, u'⟩ := y
                  obtain ⟨rfl, _, _, e', he', hsn⟩ := h2
                  simp only [Nat.sub_zero, Array.getElem?_toList] at he'
                  obtain ⟨hsb, hek⟩ := sameBits_of_sameNow hsn
                  refine ⟨{ w with heap := w.heap.setIfInBounds l.blk (.map (es'.modify i fun e => { e with key := k', val := v' }) clock) }, ?_, ?_⟩
                  · simp [Instr.mapUpdate, run_underlying ht, run_getObj ho, run_checkKey hd hc.1, Instr.findKey, run_underlying hd, h1, Instr.keyThatStays, he', hsb, run_setObj ho]
                  · refine Post.mapTurn hw hl hc.2.2 hb ho ?_ clock
                    refine ⟨by simpa using hmr.1, fun q e hq => ?_⟩
                    rw [List.getElem?_modify] at hq
                    cases hes : es[q]? with
                    | none => simp [hes] at hq
                    | some e0 =>
                      obtain ⟨e1, h3, h4⟩ := hmr.2 q e0 hes
                      simp only [hes, Option.map_eq_map, Option.map_some, Option.some.injEq] at hq
                      simp only [Array.getElem?_toList] at h3 ⊢
                      rw [Array.getElem?_modify]
                      by_cases hiq : i = q
                      · subst hiq
                        simp only [if_true, h3, Option.map_some]
                        simp only [if_true] at hq
                        subst hq
                        exact ⟨_, rfl, rfl, hv, h4.2.2⟩
                      · simp only [hiq, if_false, h3] at hq ⊢
                        subst hq
                        exact ⟨e1, rfl, h4⟩
              · rename_i hfn
                simp only [Option.some.injEq] at h
                subst h
                obtain ⟨r', h1, h2⟩ := findNow_sound d k' es es'.toList 0 _ hmr hfn
                cases r' with
                | some y => exact h2.elim
                | none =>
                  refine ⟨{ w with heap := w.heap.setIfInBounds l.blk (.map (es'.push { key := k', val := v', born := clock }) (clock + 1)) }, ?_, ?_⟩
                  · simp [Instr.mapUpdate, run_underlying ht, run_getObj ho, run_checkKey hd hc.1, Instr.findKey, run_underlying hd, h1, run_setObj ho]
                  · refine Post.mapTurn hw hl hc.2.2 hb ho ?_ (clock + 1)
                    have hlen : es'.size = es.length := by simpa using hmr.1
                    refine ⟨by simp [hlen], fun q e hq => ?_⟩
                    by_cases hql : q < es.length
                    · rw [List.getElem?_append_left hql] at hq
                      obtain ⟨e1, h3, h4⟩ := hmr.2 q e hq
                      refine ⟨e1, ?_, h4⟩
                      rw [Array.toList_push, List.getElem?_append_left (by simp; omega)]; exact h3
                    · rw [List.getElem?_append_right (by omega)] at hq
                      have hq0 : q - es.length = 0 := by
                        have := (List.getElem?_eq_some_iff.1 hq).1
                        simp at this; omega
                      rw [hq0] at hq
                      simp at hq
                      subst hq
                      refine ⟨{ key := k', val := v', born := clock }, ?_, rfl, hv, rfl⟩
                      rw [Array.toList_push, List.getElem?_append_right (by simp; omega)]
                      simp [hlen, hq0]
              · cases h
        · cases h
      · cases h
    · cases h
  · cases h

def alenB (P : Program) (H : Tr Blk) (t : TypeId) (x : Value) : Option Value :=
  match P.underlying t, x with
  | some .string, .string s => some (.int .i64 (s.data.toList.length : Nat))
  | some (.array n _), _ => some (.int .i64 (n : Nat))
  | some (.slice _), .slice _ n _ => some (.int .i64 (n : Nat))
  | some (.map _ _), .map none => some (.int .i64 0)
  | some (.map _ _), .map (some b) => match H.get b with
    | some (.map es _) => some (.int .i64 (es.length : Nat))
    | _ => none
  | _, _ => none

theorem alenB_sound {P : Program} {ρ : Rn} {w : World} {H : Tr Blk} (hw : WR P ρ w H.get) {t ty : TypeId} {x' x r : Value} (hx : VR ρ x' x) (h : alenB P H t x = some r) : ∃ r', (Builtin.len_ #[t] ty #[x']).run P w = .ok r' w ∧ VR ρ r' r := by
  unfold alenB at h
  split at h
  · rename_i s hd
    cases hx
    simp only [Option.some.injEq] at h; subst h
    have e : s.data.toList.length = s.size := by rw [Array.length_toList]; rfl
    rw [e]
    exact ⟨.int .i64 (s.size : Nat), by simp [Builtin.len_, run_underlying hd, goInt], .int _ _⟩
  · rename_i n e hd
    simp only [Option.some.injEq] at h; subst h
    exact ⟨_, by simp [Builtin.len_, run_underlying hd, goInt], .int _ _⟩
  · rename_i e a n c hd
    simp only [Option.some.injEq] at h; subst h
    obtain ⟨a0, c0, rfl⟩ : ∃ a0 c0, x' = .slice a0 n c0 := by
      cases hx with
      | nilslice => exact ⟨_, _, rfl⟩
      | slice => exact ⟨_, _, rfl⟩
      | void => exact ⟨_, _, rfl⟩
    exact ⟨_, by simp [Builtin.len_, run_underlying hd, goInt], .int _ _⟩
  · rename_i k e hd
    cases hx
    simp only [Option.some.injEq] at h; subst h
    exact ⟨_, by simp [Builtin.len_, run_underlying hd, goInt], .int _ _⟩
  · rename_i k e b hd
    split at h
    · rename_i es clock hb
      simp only [Option.some.injEq] at h; subst h
      cases hx with
      | @map _ l hl =>
        obtain ⟨es', ho, hm⟩ := map_of hw hl hb
        have : es'.size = es.length := by simpa using hm.1
        exact ⟨.int .i64 (es.length : Nat), by simp [Builtin.len_, run_underlying hd, goInt, run_getObj ho, this], .int _ _⟩
    · cases h
  · cases h

end Go.Ab

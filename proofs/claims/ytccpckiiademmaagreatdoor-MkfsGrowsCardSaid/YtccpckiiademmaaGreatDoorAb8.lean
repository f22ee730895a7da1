/-
  ABSTRACT HEAPS, part 8: append, copy, conversions, maps.
-/
import Derived.Test.YtccpckiiademmaaGreatDoorAb7
set_option linter.unusedSimpArgs false
set_option linter.unusedVariables false
namespace Go.Ab

/-- What 'append' lays behind: the values of a slice or a string, or so many zeros. -/
def NewsOK (P : Program) (w : World) (i : TypeInfo) (z : Value) (dX : TypeDesc) (n : Nat) (x : Value) (news : List Value) : Prop :=
  ((∀ k, dX ≠ .int k) ∧ (Builtin.lenOf x).run P w = .ok n w ∧ ∀ w1 : World, w1.heap = w.heap → (Builtin.firstCells i.size n x).run P w1 = .ok news.toArray w1) ∨
  ∃ k k', dX = .int k ∧ x = .int k' (n : Nat) ∧ n ≤ 281474976710656 ∧ n * i.bytes ≤ 140737488355328 ∧ z.cells.size = i.size ∧ news = arep z.cells.toList n

theorem run_append {P : Program} {tS tX ty e : TypeId} {i : TypeInfo} {z : Value} {dX : TypeDesc} (hS : P.underlying tS = some (.slice e)) (hX : P.underlying tX = some dX) (hi : P.info? e = some i) (hz : i.zero = some z)
    (w : World) (base : Option Addr) (sLen sCap n : Nat) (x : Value) (olds news : List Value) (hN : NewsOK P w i z dX n x news)
    (hold : ¬ (sLen + n ≤ sCap) → ∀ w1 : World, w1.heap = w.heap → (Builtin.firstCells i.size sLen (.slice base sLen sCap)).run P w1 = .ok olds.toArray w1)
    (hneed : sLen + n ≤ 4611686018427387904) (hfit : ¬ (sLen + n ≤ sCap) → (sLen + n) * i.bytes ≤ 140737488355328) :
    (Builtin.append_ #[tS, tX] ty #[.slice base sLen sCap, x]).run P w =
      if sLen + n ≤ sCap then (match base with
        | some a => ((storeCells (a.add (sLen * i.size)) news).run P w).andThen fun _ w1 => .ok (.slice base (sLen + n) sCap) w1
        | none => .ok (.slice base (sLen + n) sCap) w)
      else .ok (.slice (some ⟨w.heap.size, 0, none⟩) (sLen + n) (grownCap w (sLen + n) sCap e))
        (w.drew.alloc (.cells (olds ++ news ++ arep z.cells.toList (grownCap w (sLen + n) sCap e - (sLen + n))).toArray e)) := by
  rcases hN with ⟨hdX, hn, hnew⟩ | ⟨k, k', rfl, rfl, hn62, hnb, hzs, rfl⟩
  · have hint : (dX matches .int _) = false := by cases dX <;> first | rfl | exact absurd rfl (hdX _)
    by_cases hle : sLen + n ≤ sCap
    · rw [if_pos hle]
      have h1 := hnew w rfl
      cases base with
      | none => simp [Builtin.append_, run_underlying hS, run_underlying hX, hint, run_sizeOf hi, hn, hle, h1]
      | some a => simp [Builtin.append_, run_underlying hS, run_underlying hX, hint, run_sizeOf hi, hn, hle, h1]
    · rw [if_neg hle]
      have h1 := hnew w.drew rfl
      have h2 := hold hle w.drew rfl
      have h63 : ¬ (9223372036854775807 < ((sLen : Int) + (n : Int))) := by omega
      have h48 : ¬ (281474976710656 < Builtin.nextslicecap (sLen + n) sCap * i.bytes) := by
        have := growslice_fits (show sCap < sLen + n by omega) (hfit hle)
        omega
      have harr : (olds.toArray ++ news.toArray ++ Builtin.zeroCells z.cells (grownCap w (sLen + n) sCap e - (sLen + n))) = (olds ++ news ++ arep z.cells.toList (grownCap w (sLen + n) sCap e - (sLen + n))).toArray := by
        rw [zeroCells_arep]; simp
      rw [← harr]
      simp [Builtin.append_, run_underlying hS, run_underlying hX, hint, run_sizeOf hi, run_typeInfo hi, run_zeroValue hi hz, hn, hle, h1, h2, h63, h48, Question.forced, newRow, grownCap]
      congr 2
      apply Array.ext'
      simp [List.append_assoc]
  · have hwrap : IntKind.i64.wrap (n : Nat) = (n : Int) := wrap64_small hn62
    have hneg : ¬ ((n : Int) < 0) := by omega
    have hbig : ¬ (281474976710656 < (n : Int) * (i.bytes : Int)) := by
      have : ((n * i.bytes : Nat) : Int) ≤ ((140737488355328 : Nat) : Int) := Int.ofNat_le.2 hnb
      rw [Int.natCast_mul] at this
      omega
    have hz0 : n * i.size = 0 → arep z.cells.toList n = [] := fun h0 => List.eq_nil_of_length_eq_zero (by rw [arep_length, Array.length_toList, hzs]; exact h0)
    by_cases hle : sLen + n ≤ sCap
    · rw [if_pos hle]
      by_cases h0 : n * i.size = 0
      · rw [hz0 h0]
        cases base with
        | none => simp only [Builtin.append_]; simp [run_underlying hS, run_underlying hX, run_sizeOf hi, run_typeInfo hi, asInt, asIntOf, hwrap, hneg, hbig, hle, h0]
        | some a => simp only [Builtin.append_]; simp [run_underlying hS, run_underlying hX, run_sizeOf hi, run_typeInfo hi, asInt, asIntOf, hwrap, hneg, hbig, hle, h0]
      · cases base with
        | none => simp [Builtin.append_, run_underlying hS, run_underlying hX, run_sizeOf hi, run_typeInfo hi, run_zeroValue hi hz, asInt, asIntOf, hwrap, hneg, hbig, hle, h0]
        | some a => simp [Builtin.append_, run_underlying hS, run_underlying hX, run_sizeOf hi, run_typeInfo hi, run_zeroValue hi hz, asInt, asIntOf, hwrap, hneg, hbig, hle, h0, zeroCells_arep]
    · rw [if_neg hle]
      have h2 := hold hle w.drew rfl
      have h63 : ¬ (9223372036854775807 < ((sLen : Int) + (n : Int))) := by omega
      have h63' : ¬ (9223372036854775807 < ((sLen : Int) + max (n : Int) 0)) := by omega
      have h48 : ¬ (281474976710656 < Builtin.nextslicecap (sLen + n) sCap * i.bytes) := by
        have := growslice_fits (show sCap < sLen + n by omega) (hfit hle)
        omega
      by_cases h0 : n * i.size = 0
      · rw [hz0 h0]
        have harr : (olds.toArray ++ Builtin.zeroCells z.cells (grownCap w (sLen + n) sCap e - (sLen + n))) = (olds ++ [] ++ arep z.cells.toList (grownCap w (sLen + n) sCap e - (sLen + n))).toArray := by
          rw [zeroCells_arep]; simp
        rw [← harr]
        simp [Builtin.append_, run_underlying hS, run_underlying hX, run_sizeOf hi, run_typeInfo hi, run_zeroValue hi hz, asInt, asIntOf, hwrap, hneg, hbig, hle, h0, h2, h63, h63', h48, Question.forced, newRow, grownCap]
      · have harr : (olds.toArray ++ (arep z.cells.toList n).toArray ++ Builtin.zeroCells z.cells (grownCap w (sLen + n) sCap e - (sLen + n))) = (olds ++ arep z.cells.toList n ++ arep z.cells.toList (grownCap w (sLen + n) sCap e - (sLen + n))).toArray := by
          rw [zeroCells_arep]; simp
        rw [← harr]
        simp [Builtin.append_, run_underlying hS, run_underlying hX, run_sizeOf hi, run_typeInfo hi, run_zeroValue hi hz, asInt, asIntOf, hwrap, hneg, hbig, hle, h0, h2, h63, h63', h48, Question.forced, newRow, grownCap, zeroCells_arep]
        try (congr 2; apply Array.ext'; simp [List.append_assoc])

theorem grownCap_ge {w : World} {need old : Nat} {e : TypeId} : need ≤ grownCap w need old e := by
  unfold grownCap
  simp only [Question.cut]
  omega

def isIntD (d : TypeDesc) : Bool :=
  match d with
  | .int _ => true
  | _ => false

def anews (H : Tr Blk) (i : TypeInfo) (z : Value) (dX : TypeDesc) (x : Value) : Option (Nat × List Value) :=
  match isIntD dX with
  | true => match x with
    | .int _ (.ofNat n) => cond (Nat.ble n 281474976710656 && (Nat.ble (n * i.bytes) 140737488355328 && Nat.beq z.cells.size i.size)) (some (n, arep z.cells.toList n)) none
    | _ => none
  | false => match alen x with
    | none => none
    | some n => match acells H i.size n x with
      | none => none
      | some news => some (n, news)

theorem anews_sound {P : Program} {ρ : Rn} {w : World} {H : Tr Blk} (hw : WR P ρ w H.get) {i : TypeInfo} {z : Value} (hz : ∀ ρ, VR ρ z z) {dX : TypeDesc} {x' x : Value} (hx : VR ρ x' x) {n : Nat} {news : List Value} (h : anews H i z dX x = some (n, news)) :
    ∃ nv, VRl ρ nv news ∧ NewsOK P w i z dX n x' nv := by
  unfold anews at h
  split at h
  · rename_i hd
    split at h
    · rename_i k m
      cases hx
      rw [ble_eq, ble_eq] at h
      cases hc : (decide (m ≤ 281474976710656) && (decide (m * i.bytes ≤ 140737488355328) && Nat.beq z.cells.size i.size)) with
      | false => rw [hc] at h; cases h
      | true =>
        rw [hc] at h
        simp only [cond_true, Option.some.injEq, Prod.mk.injEq] at h
        obtain ⟨rfl, rfl⟩ := h
        simp only [Bool.and_eq_true, decide_eq_true_eq] at hc
        refine ⟨_, VRl.arep (hz ρ).cells.toList m, .inr ?_⟩
        obtain ⟨q, rfl⟩ : ∃ q, dX = .int q := by
          cases dX <;> first | exact ⟨_, rfl⟩ | cases hd
        exact ⟨q, k, rfl, rfl, hc.1, hc.2.1, Nat.eq_of_beq_eq_true hc.2.2, rfl⟩
    · cases h
  · rename_i hd
    split at h
    · cases h
    · rename_i n' hn
      split at h
      · cases h
      · rename_i news' hnews
        simp only [Option.some.injEq, Prod.mk.injEq] at h
        obtain ⟨rfl, rfl⟩ := h
        obtain ⟨nv, hnv, hnrun⟩ := acells_sound hw hx hnews
        exact ⟨nv, hnv, .inl ⟨fun k e => (by subst e; cases hd), alen_sound (P := P) (w := w) hx hn, hnrun⟩⟩

def aappend (P : Program) (ro : Nat) (S : St) (tS tX : TypeId) (s x : Value) : Option (Value × St) :=
  match s with
  | .slice a sLen sCap =>
    match P.underlying tS with
    | some (.slice e) =>
      match P.underlying tX with
      | none => none
      | some dX =>
        match azero P e with
        | none => none
        | some z =>
          match P.info? e with
          | none => none
          | some i =>
            match anews S.h i z dX x with
            | none => none
            | some (n, news) =>
                cond (Nat.ble (sLen + n) 4611686018427387904 && (Nat.ble ((sLen + n) * i.bytes) 140737488355328 && (Nat.beq z.cells.size i.size && Nat.beq news.length (n * i.size))))
                (match a with
                | none => cond (Nat.ble (sLen + n) sCap) (some (.slice none (sLen + n) sCap, S))
                    (cond (Nat.beq sLen 0) (some (.slice (some ⟨S.next, 0, none⟩) n UNK, S.new (.row .opn e news))) none)
                | some ⟨b, off, none⟩ =>
                  cond (Nat.beq n 0 && (Nat.ble UNK sCap || Nat.ble sLen sCap)) (some (.slice (some ⟨b, off, none⟩) sLen sCap, S))
                  (cond (Nat.blt sCap UNK)
                    (cond (Nat.ble (sLen + n) sCap)
                      (match awrite ro S b (off + sLen * i.size) news with
                      | some S' => some (.slice (some ⟨b, off, none⟩) (sLen + n) sCap, S')
                      | none => none)
                      (match acells S.h i.size sLen s with
                      | some olds => cond (Nat.beq olds.length (sLen * i.size)) (some (.slice (some ⟨S.next, 0, none⟩) (sLen + n) UNK, S.new (.row .opn e (olds ++ news)))) none
                      | none => none))
                    (cond (Nat.beq off 0 && (Nat.ble ro b && !(Nat.beq b VOID)))
                      (match S.h.get b with
                      | some (.row .opn e0 cs) => cond (Nat.beq (P.cellsOf e0) i.size && (news.all (·.oneCell')))
                        (match cellsAt cs 0 (sLen * i.size) with
                        | some olds => some (.slice (some ⟨S.next, 0, none⟩) (sLen + n) UNK, ⟨(S.h.set b none).set S.next (some (.row .opn e (olds ++ news))), S.next + 1⟩)
                        | none => none) none
                      | _ => none) none))
                | _ => none) none
    | _ => none
  | _ => none

theorem VRl.oneCell {ρ : Rn} {vs us : List Value} (h : VRl ρ vs us) (ho : us.all (·.oneCell') = true) : ∀ v ∈ vs, v.oneCell' = true := fun v hvm => by
  obtain ⟨i, hi, rfl⟩ := List.getElem_of_mem hvm
  have hl := h.1
  have h5 := h.getD i
  rw [List.getD_eq_getElem?_getD, List.getD_eq_getElem?_getD, List.getElem?_eq_getElem hi, List.getElem?_eq_getElem (show i < us.length by omega)] at h5
  simp only [Option.getD_some] at h5
  rw [h5.oneCell]
  exact List.all_eq_true.1 ho _ (by simp)

/-- A new row that 'append' has grown. -/
theorem grown_done {P : Program} {ro : Nat} {ρ : Rn} {S : St} {w : World} (hw : WR P ρ w S.h.get) (hf : FreeOn ρ S.next (S.next + 1)) (hro : ro ≤ S.next) {e : TypeId} {i : TypeInfo} (hi : P.info? e = some i) {z : Value} (hzs : z.cells.size = i.size)
    {vs us : List Value} (hv : VRl ρ vs us) {need sCap : Nat} (hlen : vs.length = need * i.size) :
    ∃ ρ', Post P ro ρ S.h.get S.next w ρ' (S.new (.row .opn e us)).h.get (S.new (.row .opn e us)).next (w.drew.alloc (.cells (vs ++ arep z.cells.toList (grownCap w need sCap e - need)).toArray e)) ∧
      VR ρ' (.slice (some ⟨w.heap.size, 0, none⟩) need (grownCap w need sCap e)) (.slice (some ⟨S.next, 0, none⟩) need UNK) := by
  have hge : need ≤ grownCap w need sCap e := grownCap_ge
  have hb := BR.newRow (P := P) (hf _ (Nat.le_refl _) (by omega)) (l := ⟨w.heap.size, 0, grownCap w need sCap e⟩) rfl (fl := .opn) (e := e) (e' := e) (fr := (0, 0)) hv (arep z.cells.toList (grownCap w need sCap e - need))
    ⟨rfl, by
      rw [List.length_append, hlen, arep_length, Array.length_toList, hzs, cellsOf_info hi, ← Nat.add_mul]
      congr 1
      exact Nat.add_sub_cancel' hge⟩
  refine ⟨rset ρ S.next ⟨w.heap.size, 0, grownCap w need sCap e⟩, ?_, ?_⟩
  · exact Post.newSt hw hf hro _ _ (.cells (vs ++ arep z.cells.toList (grownCap w need sCap e - need)).toArray e) rfl rfl rfl rfl hb
  · exact .slice (l := ⟨w.heap.size, 0, grownCap w need sCap e⟩) 0 _ _ _ (rset_same _ _ _) (.inr ⟨rfl, hge, fun _ => rfl⟩)

theorem VR.slice_cases {ρ : Rn} {x' : Value} {b off n c : Nat} (hx : VR ρ x' (.slice (some ⟨b, off, none⟩) n c)) :
    (∃ l c0, ρ b = some l ∧ x' = .slice (some ⟨l.blk, off + l.dis, none⟩) n c0 ∧ CapR l off n c0 c) ∨ (b = VOID ∧ off = 0 ∧ n = 0 ∧ c = UNK ∧ ∃ a c0, x' = .slice (some a) 0 c0) := by
  cases hx with
  | @slice _ l _ _ c0 _ hl hc => exact .inl ⟨l, c0, hl, rfl, hc⟩
  | void a c0 => exact .inr ⟨rfl, rfl, rfl, rfl, a, c0, rfl⟩

theorem Post.drop {P : Program} {ro : Nat} {ρ ρ' : Rn} {H H' H'' : Hp} {c c' : Nat} {w w' : World} (h : Post P ro ρ H c w ρ' H' c' w') (hs : ∀ n b, H'' n = some b → H' n = some b) (hk : ∀ n, n < ro → H'' n = H' n) :
    Post P ro ρ H c w ρ' H'' c' w' :=
  ⟨h.le, h.dom, h.wr.weaken hs, h.os, h.tape, h.output, h.size, h.frame, fun n b l h1 h2 hb hl => h.fresh n b l h1 h2 (hs n b hb) hl, fun n b hn hb => h.live n b hn (hs n b hb), fun n hn => (hk n hn).trans (h.keep n hn)⟩

theorem append_open {P : Program} {ro : Nat} {ρ : Rn} {S : St} {w : World} (hw : WR P ρ w S.h.get) {b e e0 sLen n c0 : Nat} {cs olds news nv : List Value} (hf : FreeOn ρ S.next (S.next + 1)) (hro : ro ≤ S.next) {tS tX ty : TypeId} {x' z : Value} {i : TypeInfo} {dX : TypeDesc}
    (hS : P.underlying tS = some (.slice e)) (hX : P.underlying tX = some dX) (hi : P.info? e = some i) (hzi : i.zero = some z) (hzs : z.cells.size = i.size)
    (hN : NewsOK P w i z dX n x' nv) (hnv : VRl ρ nv news) (hnvl : nv.length = n * i.size) (hneed : sLen + n ≤ 4611686018427387904) (hbytes : (sLen + n) * i.bytes ≤ 140737488355328)
    (hb : S.h.get b = some (.row .opn e0 cs)) (hrob : ro ≤ b) (he0 : P.cellsOf e0 = i.size) (hone : news.all (·.oneCell') = true) (holds : cellsAt cs 0 (sLen * i.size) = some olds) {l : Loc} (hl : ρ b = some l) (hsl : sLen ≤ c0) (hcap : c0 = l.cap) :
    Done P ro ρ S w (Builtin.append_ #[tS, tX] ty #[.slice (some ⟨l.blk, 0 + l.dis, none⟩) sLen c0, x']) (.slice (some ⟨S.next, 0, none⟩) (sLen + n) UNK) ⟨(S.h.set b none).set S.next (some (.row .opn e (olds ++ news))), S.next + 1⟩ := by
  obtain ⟨l', h1, hBR⟩ := hw.blk b _ hb
  rw [hl] at h1
  obtain rfl : l = l' := by simpa using h1
  obtain ⟨ov, hov, hol, hocell⟩ := row_cells hBR holds
  have horun : ∀ w1 : World, w1.heap = w.heap → (Builtin.firstCells i.size sLen (.slice (some ⟨l.blk, 0 + l.dis, none⟩) sLen c0)).run P w1 = .ok ov.toArray w1 := fun w1 hw1 =>
    run_firstCells_some w1 i.size sLen _ sLen c0 ov hol (fun j v hj => by
      have := hocell j v hj
      unfold World.cell? at this ⊢
      rw [hw1]; exact this)
  have hrun := run_append (ty := ty) hS hX hi hzi w (some ⟨l.blk, 0 + l.dis, none⟩) sLen c0 n x' ov nv hN (fun _ => horun) hneed (fun _ => hbytes)
  have hfree := hf S.next (Nat.le_refl _) (by omega)
  have hbne : b ≠ S.next := fun e => by rw [e] at hl; rw [hfree] at hl; cases hl
  have hget : ((S.h.set b none).set S.next (some (.row .opn e (olds ++ news)))).get = put (put S.h.get b none) S.next (some (.row .opn e (olds ++ news))) := by rw [get_set_eq, get_set_eq]
  by_cases hle : sLen + n ≤ c0
  · -- there is room
    rw [if_pos hle] at hrun
    obtain ⟨cc, e', fr, ho, hcell, hfr, hsz⟩ := hBR
    subst hfr
    have hmul : (sLen + n) * i.size ≤ l.cap * i.size := Nat.mul_le_mul_right _ (by omega)
    rw [he0] at hsz
    rw [Nat.add_mul] at hmul
    have hst := run_storeCells_at P l.blk (0 + l.dis + sLen * i.size) e' nv 0 cc w ho (by omega) (hnv.oneCell hone)
    have e1 : (⟨l.blk, 0 + l.dis, none⟩ : Addr).add (sLen * i.size) = ⟨l.blk, 0 + l.dis + sLen * i.size, none⟩ := by rw [add_lit]
    have hspl : (cc.toList.take (0 + l.dis + sLen * i.size + 0) ++ nv ++ cc.toList.drop (0 + l.dis + sLen * i.size + 0 + nv.length)) = splice cc.toList (l.dis + sLen * i.size) nv := by simp [splice]
    rw [hspl] at hst
    have holl : olds.length = sLen * i.size := (cellsAt_spec holds).2.1
    have hnl := hnv.1
    have hcl : cc.toList.length = cc.size := by simp
    refine ⟨.slice (some ⟨l.blk, 0 + l.dis, none⟩) (sLen + n) c0, w.setRow l.blk (splice cc.toList (l.dis + sLen * i.size) nv).toArray, rset ρ S.next l, ?_, ?_, ?_⟩
    · rw [hrun]; simp only [e1, hst, Result.andThen_ok]
    · simp only [hget]
      refine ⟨by omega, fun m hm => rset_other _ _ (by omega), ?_, by simp, by simp, by simp, by simp, fun B hB hB' => setRow_other _ _ _ _ (fun e => hB' b _ l hrob hb hl e.symm), fun m bm lm h1 h2 _ hlm => ?_, fun m bm hm hbm => ?_, fun m hm => ?_⟩
      · have hwk : WR P ρ w (put S.h.get b none) := hw.weaken (fun m bm hm => by
          by_cases e : m = b
          · subst e; simp [put] at hm
          · simpa [put, e] using hm)
        have hoth : ∀ m bm lm, put S.h.get b none m = some bm → ρ m = some lm → lm.blk ≠ l.blk := fun m bm lm hm hlm e => by
          by_cases em : m = b
          · subst em; simp [put] at hm
          · simp only [put, em, if_false] at hm
            exact em (hw.inj m b bm _ lm l hm hb hlm hl e)
        refine hwk.new hfree l _ ?_ hoth (fun m bm lm hm hlm => setRow_other _ _ _ _ (hoth m bm lm hm hlm))
        refine ⟨_, e', (0, 0), setRow_heap w l.blk cc _ e' (0, 0) ho, fun j u hu => ?_, rfl, ?_⟩
        · have hjl : j < (olds ++ news).length := (List.getElem?_eq_some_iff.1 hu).1
          simp only [List.length_append] at hjl
          simp only [List.getElem?_toArray]
          rw [splice_at (by omega)]
          by_cases hj : j < olds.length
          · rw [List.getElem?_append_left hj] at hu
            rw [if_neg (by omega)]
            have h5 := (cellsAt_spec holds).2.2 j (by omega)
            rw [Nat.zero_add] at h5
            obtain ⟨cv, h6, h7⟩ := hcell j u (h5.trans hu)
            exact ⟨cv, by simpa using h6, h7.mono (.rset hfree l)⟩
          · rw [List.getElem?_append_right (by omega)] at hu
            rw [if_pos (by omega)]
            obtain ⟨cv, h6, h7⟩ := hnv.at hu
            exact ⟨cv, by rw [← h6]; congr 1; omega, h7.mono (.rset hfree l)⟩
        · have : (splice cc.toList (l.dis + sLen * i.size) nv).length = cc.toList.length := splice_length (by omega)
          rw [cellsOf_info hi, ← hsz, ← hcl, ← this]
          simp
      · obtain rfl : m = S.next := by omega
        rw [rset_same] at hlm
        obtain rfl : l = lm := by simpa using hlm
        exact .inr ⟨b, _, l, hrob, hb, hl, rfl⟩
      · simp only [put, if_neg (show m ≠ S.next by omega)] at hbm
        by_cases e : m = b
        · subst e; simp at hbm
        · simp only [e, if_false] at hbm; exact ⟨bm, hbm⟩
      · simp only [put, if_neg (show m ≠ S.next by omega), if_neg (show m ≠ b by omega)]
    · exact .slice (l := l) 0 _ _ _ (rset_same _ _ _) (.inr ⟨rfl, hle, fun _ => hcap⟩)
  · -- a new row
    rw [if_neg hle] at hrun
    obtain ⟨ρ', h1, h2⟩ := grown_done (ro := ro) hw hf hro hi hzs (hov.append hnv) (need := sLen + n) (sCap := c0) (by rw [List.length_append, hol, hnvl, ← Nat.add_mul])
    refine ⟨_, _, ρ', hrun, ?_, h2⟩
    refine h1.drop (fun m bm hm => ?_) (fun m hm => ?_)
    · rw [hget] at hm
      simp only [St.new, get_set_eq]
      by_cases e : m = S.next
      · subst e; simpa [put] using hm
      · simp only [put, e, if_false] at hm ⊢
        by_cases e2 : m = b
        · simp [e2] at hm
        · simpa [e2] using hm
    · rw [hget]
      simp only [St.new, get_set_eq, put, if_neg (show m ≠ S.next by omega), if_neg (show m ≠ b by omega)]

theorem aappend_sound {P : Program} {ro : Nat} {ρ : Rn} {S S' : St} {w : World} (hw : WR P ρ w S.h.get) (hf : FreeOn ρ S.next S'.next) (hro : ro ≤ S.next) {tS tX ty : TypeId} {s' s x' x r : Value}
    (hs : VR ρ s' s) (hx : VR ρ x' x) (h : aappend P ro S tS tX s x = some (r, S')) : Done P ro ρ S w (Builtin.append_ #[tS, tX] ty #[s', x']) r S' := by
  unfold aappend at h
  split at h
  · rename_i a sLen sCap
    split at h
    · rename_i e hS
      split at h
      · cases h
      · rename_i dX hX
        split at h
        · cases h
        · rename_i z hz
          split at h
          · cases h
          · rename_i i hi
            split at h
            · cases h
            · rename_i n news hnews
              · skip
                obtain ⟨⟨i', hi', hzi⟩, hzv⟩ := azero_spec hz
                rw [hi] at hi'
                obtain rfl : i = i' := by simpa using hi'
                simp only [ble_eq] at h
                cases hc : (decide (sLen + n ≤ 4611686018427387904) && (decide ((sLen + n) * i.bytes ≤ 140737488355328) && (Nat.beq z.cells.size i.size && Nat.beq news.length (n * i.size)))) with
                | false => simp [hc] at h
                | true =>
                  simp only [hc, cond_true] at h
                  simp only [Bool.and_eq_true, decide_eq_true_eq] at hc
                  obtain ⟨hneed, hbytes, hzs, hnl⟩ := hc
                  have hzs := Nat.eq_of_beq_eq_true hzs
                  have hnl := Nat.eq_of_beq_eq_true hnl
                  obtain ⟨nv, hnv, hN⟩ := anews_sound hw hzv hx hnews
                  have hnvl : nv.length = n * i.size := by rw [hnv.1]; exact hnl
                  split at h
                  · -- nil
                    cases hs
                    have hrun := fun olds hold => run_append (ty := ty) hS hX hi hzi w none sLen sCap n x' olds nv hN hold hneed (fun _ => hbytes)
                    by_cases hle : sLen + n ≤ sCap
                    · simp only [hle, decide_true, cond_true, Option.some.injEq, Prod.mk.injEq] at h
                      obtain ⟨rfl, rfl⟩ := h
                      refine Done.pure hw ⟨.slice none (sLen + n) sCap, ?_, .nilslice _ _⟩
                      have := hrun [] (fun hne => absurd hle hne)
                      rw [if_pos hle] at this
                      exact this
                    · simp only [hle, decide_false, cond_false, cond_beq] at h
                      by_cases h0 : sLen = 0
                      · subst h0
                        simp only [if_true, Option.some.injEq, Prod.mk.injEq] at h
                        obtain ⟨rfl, rfl⟩ := h
                        have := hrun [] (fun _ w1 _ => by simp [Builtin.firstCells])
                        rw [if_neg hle] at this
                        simp only [Nat.zero_add, List.nil_append] at this
                        obtain ⟨ρ', h1, h2⟩ := grown_done (ro := ro) hw hf hro hi hzs hnv (need := n) (sCap := sCap) hnvl
                        exact ⟨_, _, ρ', this, h1, h2⟩
                      · simp [h0] at h
                  · rename_i b off
                    -- what it is
                    have hcase := VR.slice_cases hs
                    by_cases hnop : (Nat.beq n 0 && (decide (UNK ≤ sCap) || decide (sLen ≤ sCap))) = true
                    · rw [hnop] at h
                      simp only [cond_true, Option.some.injEq, Prod.mk.injEq] at h
                      obtain ⟨rfl, rfl⟩ := h
                      simp only [Bool.and_eq_true, Bool.or_eq_true, decide_eq_true_eq] at hnop
                      have hn0 := Nat.eq_of_beq_eq_true hnop.1
                      subst hn0
                      have hnv0 : nv = [] := List.eq_nil_of_length_eq_zero (by rw [hnvl]; simp)
                      subst hnv0
                      obtain ⟨a, c0, rfl, hle⟩ : ∃ a c0, s' = .slice (some a) sLen c0 ∧ sLen ≤ c0 := by
                        rcases hcase with ⟨l, c0, hl, rfl, hcr⟩ | ⟨_, _, rfl, _, a, c0, rfl⟩
                        · refine ⟨_, c0, rfl, ?_⟩
                          rcases hcr with ⟨h1, h2⟩ | ⟨h1, h2, _⟩
                          · subst h1
                            rcases hnop.2 with h3 | h3
                            · omega
                            · exact h3
                          · exact h2
                        · exact ⟨a, c0, rfl, Nat.zero_le _⟩
                      refine Done.pure hw ⟨.slice (some a) sLen c0, ?_, hs⟩
                      have := run_append (ty := ty) hS hX hi hzi w (some a) sLen c0 0 x' [] [] hN (fun hne => absurd (by omega) hne) hneed (fun _ => hbytes)
                      rw [this, if_pos (by omega)]
                      simp [storeCells]
                    · have hnop' : (Nat.beq n 0 && (decide (UNK ≤ sCap) || decide (sLen ≤ sCap))) = false := by simpa using hnop
                      rw [hnop'] at h
                      simp only [cond_false, blt_eq] at h
                      by_cases hk : sCap < UNK
                      · -- a capacity that is known
                        simp only [hk, decide_true, cond_true] at h
                        obtain ⟨l, hl, rfl⟩ : ∃ l, ρ b = some l ∧ s' = .slice (some ⟨l.blk, off + l.dis, none⟩) sLen sCap := by
                          rcases hcase with ⟨l, c0, hl, rfl, hcr⟩ | ⟨_, _, _, h1, _⟩
                          · rcases hcr with ⟨h1, h2⟩ | ⟨h1, _⟩
                            · subst h1; exact ⟨l, hl, rfl⟩
                            · omega
                          · omega
                        by_cases hle : sLen + n ≤ sCap
                        · simp only [hle, decide_true, cond_true] at h
                          split at h
                          · rename_i S1 haw
                            simp only [Option.some.injEq, Prod.mk.injEq] at h
                            obtain ⟨rfl, rfl⟩ := h
                            obtain ⟨w', h1, h2⟩ := awrite_sound hw hl hnv haw
                            refine ⟨.slice (some ⟨l.blk, off + l.dis, none⟩) (sLen + n) sCap, w', ρ, ?_, h2, .slice off _ _ _ hl (.inl ⟨rfl, hk⟩)⟩
                            have := run_append (ty := ty) hS hX hi hzi w (some ⟨l.blk, off + l.dis, none⟩) sLen sCap n x' [] nv hN (fun hne => absurd hle hne) hneed (fun _ => hbytes)
                            rw [this, if_pos hle]
                            have e1 : (⟨l.blk, off + l.dis, none⟩ : Addr).add (sLen * i.size) = ⟨l.blk, (off + sLen * i.size) + l.dis, none⟩ := by rw [add_lit]; congr 1; omega
                            simp [e1, h1]
                          · cases h
                        · simp only [hle, decide_false, cond_false] at h
                          split at h
                          · rename_i olds holds
                            rw [cond_beq] at h
                            by_cases hol : olds.length = sLen * i.size
                            · simp only [hol, if_true, Option.some.injEq, Prod.mk.injEq] at h
                              obtain ⟨rfl, rfl⟩ := h
                              obtain ⟨ov, hov, horun⟩ := acells_sound hw hs holds
                              have := run_append (ty := ty) hS hX hi hzi w (some ⟨l.blk, off + l.dis, none⟩) sLen sCap n x' ov nv hN (fun _ => horun) hneed (fun _ => hbytes)
                              rw [if_neg hle] at this
                              obtain ⟨ρ', h1, h2⟩ := grown_done (ro := ro) hw hf hro hi hzs (hov.append hnv) (need := sLen + n) (sCap := sCap) (by rw [List.length_append, hov.1, hol, hnvl, ← Nat.add_mul])
                              exact ⟨_, _, ρ', this, h1, h2⟩
                            · simp [hol] at h
                          · cases h
                      · -- one that isn't
                        simp only [hk, decide_false, cond_false] at h
                        cases hc2 : (Nat.beq off 0 && (decide (ro ≤ b) && !(Nat.beq b VOID))) with
                        | false => simp [hc2] at h
                        | true =>
                          simp only [hc2, cond_true] at h
                          simp only [Bool.and_eq_true, decide_eq_true_eq, Bool.not_eq_true'] at hc2
                          have hoff := Nat.eq_of_beq_eq_true hc2.1
                          have hrob := hc2.2.1
                          have hbv : b ≠ VOID := fun e => by rw [e] at hc2; simp at hc2
                          subst hoff
                          split at h
                          · rename_i e0 cs hb
                            cases hc3 : (Nat.beq (P.cellsOf e0) i.size && news.all (·.oneCell')) with
                            | false => simp [hc3] at h
                            | true =>
                              simp only [hc3, cond_true] at h
                              simp only [Bool.and_eq_true] at hc3
                              have he0 := Nat.eq_of_beq_eq_true hc3.1
                              split at h
                              · rename_i olds holds
                                simp only [Option.some.injEq, Prod.mk.injEq] at h
                                obtain ⟨rfl, rfl⟩ := h
                                have hcase' : ∃ l c0, ρ b = some l ∧ s' = .slice (some ⟨l.blk, 0 + l.dis, none⟩) sLen c0 ∧ sLen ≤ c0 ∧ c0 = l.cap := by
                                  rcases hcase with ⟨l, c0, hl, rfl, hcr⟩ | ⟨hv, _, _, _, _⟩
                                  · rcases hcr with ⟨h1, h2⟩ | ⟨h1, h2, h3⟩
                                    · omega
                                    · exact ⟨l, c0, hl, rfl, h2, h3 rfl⟩
                                  · exact absurd hv hbv
                                obtain ⟨l, c0, hl, rfl, hsl, hcap⟩ := hcase'
                                exact append_open hw hf hro hS hX hi hzi hzs hN hnv hnvl hneed hbytes hb hrob he0 hc3.2 holds hl hsl hcap
                              · cases h
                          · cases h
                  · cases h
    · cases h
  · cases h

end Go.Ab

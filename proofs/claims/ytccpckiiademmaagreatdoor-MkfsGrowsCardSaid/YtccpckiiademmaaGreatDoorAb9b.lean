/-
  ABSTRACT HEAPS, part 9b: iterators; a constant's bytes.
-/
import Derived.Test.YtccpckiiademmaaGreatDoorAb9
set_option linter.unusedSimpArgs false
set_option linter.unusedVariables false
namespace Go.Ab

def aiter (S : St) (b : Blk) : Option (Value × St) := some (.pointer (some ⟨S.next, 0, none⟩), S.new b)

def arange (P : Program) (S : St) (t : TypeId) (x : Value) : Option (Value × St) :=
  match P.underlying t, x with
  | some .string, .string s => aiter S (.siter s 0)
  | some (.map _ _), .map none => aiter S (.miter none 0 [] 0)
  | some (.map _ _), .map (some m) => match S.h.get m with
    | some (.map _ clock) => aiter S (.miter (some m) clock [] clock)
    | _ => none
  | _, _ => none

def aover (S : St) : Option (Value × St) := some (.tuple #[.bool false], S)

/-- An entry that has not been handed out. -/
def unseen (seen : List Nat) (e : MapEntry) : Bool := !(seen.contains e.born)

def anext (ro : Nat) (S : St) (it : Value) (isS : Bool) : Option (Value × St) :=
  match it with
  | .pointer (some ⟨r, 0, none⟩) => match isS with
    | true => match S.h.get r with
      | some (.siter s pos) => match Nat.blt pos s.size with
        | true => cond (Nat.ble ro r) (some (.tuple #[.bool true, goInt pos, .int .i32 (Utf8.decode s pos).1], ⟨S.h.set r (some (.siter s (pos + (Utf8.decode s pos).2))), S.next⟩)) none
        | false => aover S
      | _ => none
    | false => match S.h.get r with
      | some (.miter none _ _ _) => aover S
      | some (.miter (some m) since seen last) => match S.h.get m with
        | some (.map es clock) => match !seen.isEmpty && !es.isEmpty && es.all (fun e => Nat.ble last e.born) with
          | true => none
          | false => match es.filter (unseen seen) with
            | [] => aover S
            | [e] => cond (Nat.blt e.born since && (plainVal e.key && Nat.ble ro r)) (some (.tuple #[.bool true, e.key, e.val], ⟨S.h.set r (some (.miter (some m) since (seen ++ [e.born]) clock)), S.next⟩)) none
            | _ => none
        | _ => none
      | _ => none
  | _ => none

def aentry (S : St) (it : Value) : Option Value :=
  match it with
  | .pointer (some ⟨r, 0, none⟩) => match S.h.get r with
    | some (.miter (some m) _ seen stepped) => match seen.getLast? with
      | some stamp => match S.h.get m with
        | some (.map es clock) => match Nat.beq clock stepped with
          | true => match es.find? (fun e => e.born == stamp) with
            | some e => cond (plainVal e.key) (some (.tuple #[e.key, e.val])) none
            | none => none
          | false => none
        | _ => none
      | none => none
    | _ => none
  | _ => none

section
variable {P : Program} {ro : Nat} {ρ : Rn} {S S' : St} {w : World}

theorem aiter_done (hw : WR P ρ w S.h.get) (hf : FreeOn ρ S.next (S.next + 1)) (hro : ro ≤ S.next) {s : Sem Value} {b : Blk} {o : Obj} (hs : s.run P w = .ok (.pointer (some ⟨w.heap.size, 0, none⟩)) (w.alloc o))
    (hb : BR P (rset ρ S.next ⟨w.heap.size, 0, 0⟩) (some o) b ⟨w.heap.size, 0, 0⟩) : Done P ro ρ S w s (.pointer (some ⟨S.next, 0, none⟩)) (S.new b) :=
  ⟨_, _, _, hs, Post.newSt hw hf hro 0 b o rfl rfl rfl rfl hb, .ptr (l := ⟨w.heap.size, 0, 0⟩) 0 (rset_same _ _ _)⟩

theorem arange_sound (hw : WR P ρ w S.h.get) (hf : FreeOn ρ S.next S'.next) (hro : ro ≤ S.next) {t : TypeId} {x' x r : Value} (hx : VR ρ x' x) (h : arange P S t x = some (r, S')) : Done P ro ρ S w (Instr.range t x') r S' := by
  unfold arange at h
  split at h
  · rename_i s ht
    cases hx
    simp only [aiter, Option.some.injEq, Prod.mk.injEq] at h
    obtain ⟨rfl, rfl⟩ := h
    exact aiter_done hw hf hro (o := .stringIter s 0) (by simp [Instr.range, run_underlying ht]) ⟨rfl, rfl⟩
  · rename_i ht
    cases hx
    simp only [aiter, Option.some.injEq, Prod.mk.injEq] at h
    obtain ⟨rfl, rfl⟩ := h
    exact aiter_done hw hf hro (o := .mapIter none 0 #[] 0) (by simp [Instr.range, run_underlying ht]) ⟨rfl, none, rfl, rfl⟩
  · rename_i m ht
    split at h
    · rename_i es clock hm
      cases hx with
      | map hl =>
        rename_i l
        simp only [aiter, Option.some.injEq, Prod.mk.injEq] at h
        obtain ⟨rfl, rfl⟩ := h
        obtain ⟨es', h1, _⟩ := map_of hw hl hm
        have hlt : m ≠ S.next := fun e => by
          have := hf S.next (Nat.le_refl _) (by simp [St.new])
          rw [← e, hl] at this; cases this
        refine aiter_done hw hf hro (o := .mapIter (some l.blk) clock #[] clock) ?_ ⟨rfl, some l.blk, rfl, l, by rw [rset_other _ _ hlt]; exact hl, rfl⟩
        simp [Instr.range, run_underlying ht, run_getObj h1]
    · cases h
  · cases h

/-- What an iterator's block is. -/
theorem iter_of (hw : WR P ρ w S.h.get) {x' : Value} {r : Nat} {b : Blk} (hx : VR ρ x' (.pointer (some ⟨r, 0, none⟩))) (hb : S.h.get r = some b) (hd : ∀ o l, BR P ρ o b l → l.dis = 0) :
    ∃ l, x' = .pointer (some ⟨l.blk, 0, none⟩) ∧ ρ r = some l ∧ BR P ρ w.heap[l.blk]? b l := by
  cases hx with
  | ptr off hl =>
    rename_i l
    obtain ⟨l', h1, h2⟩ := hw.blk r _ hb
    rw [hl] at h1
    obtain rfl : l = l' := by simpa using h1
    refine ⟨l, ?_, hl, h2⟩
    rw [hd _ _ h2]

theorem Post.iterTurn (hw : WR P ρ w S.h.get) {r : Nat} {l : Loc} {b b' : Blk} (hb : S.h.get r = some b) (hl : ρ r = some l) (hro : ro ≤ r) {o : Obj} (hlt : l.blk < w.heap.size) (hbr : BR P ρ (some o) b' l) :
    Post P ro ρ S.h.get S.next w ρ (S.h.set r (some b')).get S.next { w with heap := w.heap.setIfInBounds l.blk o } := by
  rw [get_set_eq]
  refine Post.turn hw hb hl hro _ (by simp) rfl rfl rfl ?_ (fun B hB => by rw [Array.getElem?_setIfInBounds]; rw [if_neg (fun e => hB e.symm)])
  show BR P ρ (w.heap.setIfInBounds l.blk o)[l.blk]? _ _
  rw [Array.getElem?_setIfInBounds, if_pos rfl, if_pos hlt]
  exact hbr

/-- A block that is no row. -/
def noRow : Obj → Bool
  | .cells .. => false
  | _ => true

theorem run_getObj' {r : Nat} {o : Obj} (h : w.heap[r]? = some o) (hn : noRow o = true) : (getObj r).run P w = .ok o w := by
  simp only [getObj, Sem.run, h]
  cases o <;> first | rfl | cases hn
theorem run_setObj' {r : Nat} {o' : Obj} (h : w.heap[r]? = some o') (hn : noRow o' = true) (o : Obj) : (setObj r o).run P w = .ok () { w with heap := w.heap.setIfInBounds r o } := by
  simp only [setObj, Sem.run, h]
  cases o' <;> first | rfl | cases hn

theorem plainVR {k : Value} (h : plainVal k = true) : VR ρ k k := by
  cases k <;> first | exact .int _ _ | exact .string _ | exact .bool _ | cases h

theorem tupleB {ρ : Rn} (b : Bool) : VR ρ (.tuple #[.bool b]) (.tuple #[.bool b]) := .tuple _ _ rfl (fun i hi => by
  obtain rfl : i = 0 := by simp at hi; omega
  exact .bool b)

theorem tuple3 {ρ : Rn} {a b c a' b' c' : Value} (h1 : VR ρ a a') (h2 : VR ρ b b') (h3 : VR ρ c c') : VR ρ (.tuple #[a, b, c]) (.tuple #[a', b', c']) := .tuple _ _ rfl (fun i hi => by
  have : i = 0 ∨ i = 1 ∨ i = 2 := by simp at hi; omega
  rcases this with rfl | rfl | rfl
  · exact h1
  · exact h2
  · exact h3)

theorem tuple2' {ρ : Rn} {a b a' b' : Value} (h1 : VR ρ a a') (h2 : VR ρ b b') : VR ρ (.tuple #[a, b]) (.tuple #[a', b']) := .tuple _ _ rfl (fun i hi => by
  have : i = 0 ∨ i = 1 := by simp at hi; omega
  rcases this with rfl | rfl
  · exact h1
  · exact h2)

/-- Entries that are filtered by their stamps. -/
theorem MRl.filter {p : MapEntry → Bool} (hp : ∀ e e', e.born = e'.born → p e = p e') : ∀ {es' es : List MapEntry}, MRl ρ es' es → MRl ρ (es'.filter p) (es.filter p)
  | [], [], _ => ⟨rfl, fun i e h => by simp at h⟩
  | [], _ :: _, h => by have := h.1; simp at this
  | _ :: _, [], h => by have := h.1; simp at this
  | e' :: es', e :: es, h => by
    obtain ⟨h1, h2⟩ := h.tail
    have ih := MRl.filter hp h2
    rw [List.filter_cons, List.filter_cons, hp e' e h1.2.2]
    by_cases hc : p e = true
    · rw [if_pos hc, if_pos hc]
      refine ⟨by simp [ih.1], fun i x hx => ?_⟩
      cases i with
      | zero => simp at hx; subst hx; exact ⟨e', rfl, h1⟩
      | succ i => obtain ⟨y, h3, h4⟩ := ih.2 i x (by simpa using hx); exact ⟨y, by simpa using h3, h4⟩
    · rw [if_neg hc, if_neg hc]
      exact ih

theorem MRl.all {p : MapEntry → Bool} (hp : ∀ e e', e.born = e'.born → p e = p e') : ∀ {es' es : List MapEntry}, MRl ρ es' es → es'.all p = es.all p
  | [], [], _ => rfl
  | [], _ :: _, h => by have := h.1; simp at this
  | _ :: _, [], h => by have := h.1; simp at this
  | e' :: es', e :: es, h => by
    obtain ⟨h1, h2⟩ := h.tail
    simp only [List.all_cons]
    rw [hp e' e h1.2.2, MRl.all hp h2]

theorem MRl.find {p : MapEntry → Bool} (hp : ∀ e e', e.born = e'.born → p e = p e') : ∀ {es' es : List MapEntry} {e : MapEntry}, MRl ρ es' es → es.find? p = some e → ∃ e', es'.find? p = some e' ∧ MR ρ e' e
  | [], [], e, _, h => by simp at h
  | [], _ :: _, _, h, _ => by have := h.1; simp at this
  | _ :: _, [], _, h, _ => by have := h.1; simp at this
  | e' :: es', x :: es, e, h, hx => by
    obtain ⟨h1, h2⟩ := h.tail
    rw [List.find?_cons] at hx ⊢
    rw [hp e' x h1.2.2]
    cases hc : p x with
    | true =>
      simp only [hc, Option.some.injEq] at hx
      subst hx
      exact ⟨e', rfl, h1⟩
    | false =>
      simp only [hc] at hx
      exact MRl.find hp h2 hx

theorem anext_sound (hw : WR P ρ w S.h.get) {x' x r : Value} {isS : Bool} {ty : TypeId} (hx : VR ρ x' x) (h : anext ro S x isS = some (r, S')) : Done P ro ρ S w (Instr.next x' isS ty) r S' := by
  unfold anext at h
  split at h
  · rename_i q
    split at h
    · -- strings
      split at h
      · rename_i s pos hb
        obtain ⟨l, rfl, hl, hbr⟩ := iter_of hw hx hb (fun o l h => h.1)
        have ho := hbr.2
        split at h
        · rename_i hlt
          rw [blt_eq] at hlt
          rw [ble_eq] at h
          by_cases hr : ro ≤ q
          · simp only [hr, decide_true, cond_true, Option.some.injEq, Prod.mk.injEq] at h
            obtain ⟨rfl, rfl⟩ := h
            refine ⟨.tuple #[.bool true, goInt pos, .int .i32 (Utf8.decode s pos).1], { w with heap := w.heap.setIfInBounds l.blk (.stringIter s (pos + (Utf8.decode s pos).2)) }, ρ, ?_, Post.iterTurn hw hb hl hr (Array.getElem?_eq_some_iff.1 ho).1 ⟨hbr.1, rfl⟩, tuple3 (.bool _) (.int _ _) (.int _ _)⟩
            simp only [Instr.next, Sem.run_bind, run_getObj' ho rfl, Result.andThen_ok]
            rw [if_pos (by simpa using hlt)]
            simp only [Sem.run_bind, run_setObj' ho rfl, Result.andThen_ok]
            rfl
          · simp [hr] at h
        · rename_i hlt
          rw [blt_eq] at hlt
          simp only [aover, Option.some.injEq, Prod.mk.injEq] at h
          obtain ⟨rfl, rfl⟩ := h
          refine Done.pure hw ⟨.tuple #[.bool false], ?_, tupleB _⟩
          simp only [Instr.next, Sem.run_bind, run_getObj' ho rfl, Result.andThen_ok]
          rw [if_neg (by simpa using hlt)]
          rfl
      · cases h
    · split at h
      · rename_i s1 s2 s3 hb
        obtain ⟨l, rfl, hl, hbr⟩ := iter_of hw hx hb (fun o l h => h.1)
        obtain ⟨_, m', ho, rfl⟩ := hbr
        simp only [aover, Option.some.injEq, Prod.mk.injEq] at h
        obtain ⟨rfl, rfl⟩ := h
        refine Done.pure hw ⟨.tuple #[.bool false], ?_, tupleB _⟩
        simp only [Instr.next, Sem.run_bind, run_getObj' ho rfl, Result.andThen_ok]
        rfl
      · rename_i m since seen last hb
        obtain ⟨l, rfl, hl, hbr⟩ := iter_of hw hx hb (fun o l h => h.1)
        obtain ⟨hd, m', ho, lm, hlm, rfl⟩ := hbr
        split at h
        · rename_i es clock hm
          obtain ⟨es', hes', hmr⟩ := map_of hw hlm hm
          split at h
          · cases h
          · rename_i htest
            have ht' : (!seen.toArray.isEmpty && !es'.isEmpty && es'.all (fun e => decide (e.born ≥ last))) = false := by
              rw [← htest]
              have e1 : seen.toArray.isEmpty = seen.isEmpty := by cases seen <;> rfl
              have e2 : es'.isEmpty = es.isEmpty := by
                have := hmr.1
                rcases es' with ⟨l'⟩
                cases l' <;> cases es <;> simp at this ⊢
              have e3 : es'.all (fun e => decide (e.born ≥ last)) = es.all (fun e => Nat.ble last e.born) := by
                rw [← Array.all_toList]
                have : (fun e : MapEntry => decide (e.born ≥ last)) = (fun e => Nat.ble last e.born) := by
                  funext e; rw [ble_eq]
                rw [this]
                exact MRl.all (fun e e' he => by rw [he]) hmr
              rw [e1, e2, e3]
            have hrun : ∀ (nx : Sem Value), (Instr.next (.pointer (some ⟨l.blk, 0, none⟩)) false ty).run P w = (do
                let left := es'.filter fun e => !seen.toArray.contains e.born
                let old := left.filter (·.born < since)
                let new := left.filter (·.born ≥ since)
                let candidates := (if old.isEmpty then #[none] else #[]) ++ (old ++ new).map some
                match candidates[← choose (.mapNext candidates.size)]? with
                | some (some e) =>
                  setObj l.blk (.mapIter (some lm.blk) since (seen.toArray.push e.born) clock)
                  pure (.tuple #[.bool true, e.key, e.val])
                | some none => pure (.tuple #[.bool false])
                | none => stuck "Next: no such candidate" : Sem Value).run P w := by
              intro _
              simp only [Instr.next, Sem.run_bind, run_getObj' ho rfl, Result.andThen_ok, run_getObj' hes' rfl, ht', Bool.false_eq_true, if_false]
              rfl
            have hfl : (es'.filter fun e => !seen.toArray.contains e.born).toList = es'.toList.filter (unseen seen) := by
              rw [Array.toList_filter]
              congr 1
              funext e
              simp [unseen]
            have hmf := MRl.filter (p := unseen seen) (fun e e' he => by simp [unseen, he]) hmr
            rw [← hfl] at hmf
            generalize (es'.filter fun e => !seen.toArray.contains e.born) = L at hmf hrun
            split at h
            · rename_i hnil
              rw [hnil] at hmf
              have : L = #[] := by
                rcases L with ⟨l'⟩
                cases l' with
                | nil => rfl
                | cons => have := hmf.1; simp at this
              subst this
              simp only [aover, Option.some.injEq, Prod.mk.injEq] at h
              obtain ⟨rfl, rfl⟩ := h
              refine Done.pure hw ⟨.tuple #[.bool false], ?_, tupleB _⟩
              rw [hrun (pure undef)]
              simp [choose, Sem.run, Question.forced]
            · rename_i e hone
              rw [hone] at hmf
              obtain ⟨e', rfl, he⟩ : ∃ e', L = #[e'] ∧ MR ρ e' e := by
                rcases L with ⟨l'⟩
                match l', hmf with
                | [], h => have := h.1; simp at this
                | [e'], h => obtain ⟨y, h1, h2⟩ := h.2 0 e rfl; simp at h1; subst h1; exact ⟨_, rfl, h2⟩
                | _ :: _ :: _, h => have := h.1; simp at this
              rw [blt_eq, ble_eq] at h
              cases hcc : (decide (e.born < since) && (plainVal e.key && decide (ro ≤ q))) with
              | false => rw [hcc] at h; cases h
              | true =>
                rw [hcc] at h
                simp only [Bool.and_eq_true, decide_eq_true_eq] at hcc
                obtain ⟨hc1, hc2, hc3⟩ := hcc
                simp only [cond_true, Option.some.injEq, Prod.mk.injEq] at h
                obtain ⟨rfl, rfl⟩ := h
                refine ⟨.tuple #[.bool true, e'.key, e'.val], { w with heap := w.heap.setIfInBounds l.blk (.mapIter (some lm.blk) since (seen.toArray.push e'.born) clock) }, ρ, ?_, Post.iterTurn hw hb hl hc3 (Array.getElem?_eq_some_iff.1 ho).1 ⟨hd, some lm.blk, by simp [he.2.2], lm, hlm, rfl⟩, ?_⟩
                · rw [hrun (pure undef)]
                  have hb1 : e'.born < since := by rw [he.2.2]; exact hc1
                  have hb2 : ¬ e'.born ≥ since := by omega
                  dsimp only
                  rw [show (#[e'].filter (fun x => decide (x.born < since))) = #[e'] by simp [hb1], show (#[e'].filter (fun x => decide (x.born ≥ since))) = #[] by simp [hb2]]
                  simp [choose, Sem.run, Question.forced, setObj, ho]
                · have hk := he.1
                  rw [hk]
                  exact tuple3 (.bool _) (plainVR hc2) he.2.1
            · cases h
        · cases h
      · cases h
  · cases h

theorem aentry_sound (hw : WR P ρ w S.h.get) {x' x r : Value} (hx : VR ρ x' x) (h : aentry S x = some r) : ∃ r', (Instr.entry x').run P w = .ok r' w ∧ VR ρ r' r := by
  unfold aentry at h
  split at h
  · rename_i q
    split at h
    · rename_i m since seen stepped hb
      obtain ⟨l, rfl, hl, hbr⟩ := iter_of hw hx hb (fun o l h => h.1)
      obtain ⟨hd, m', ho, lm, hlm, rfl⟩ := hbr
      split at h
      · rename_i stamp hst
        split at h
        · rename_i es clock hm
          obtain ⟨es', hes', hmr⟩ := map_of hw hlm hm
          split at h
          · rename_i hcl
            rw [Nat.beq_eq] at hcl
            subst hcl
            split at h
            · rename_i e he
              obtain ⟨e', h1, h2⟩ := MRl.find (fun e e' he => by simp [he]) hmr he
              cases hp : plainVal e.key with
              | false => simp [hp] at h
              | true =>
                simp only [hp, cond_true, Option.some.injEq] at h
                subst h
                refine ⟨.tuple #[e'.key, e'.val], ?_, ?_⟩
                · have hback : seen.toArray.back? = some stamp := by
                    rw [← hst]; simp
                  have hf : es'.find? (fun e => e.born == stamp) = some e' := by
                    rw [← h1, Array.find?_toList]
                  simp only [Instr.entry, Sem.run_bind, run_getObj' ho rfl, Result.andThen_ok, hback, run_getObj' hes' rfl, hf]
                  simp
                · rw [h2.1]; exact tuple2' (plainVR hp) h2.2.1
            · cases h
          · cases h
        · cases h
      · cases h
    · cases h
  · cases h

/-! ### a constant's bytes, as a slice of its own type -/

theorem freeze_modify (w : World) (a : Addr) : ∃ g : Obj → Obj, w.freeze a 1 = { w with heap := w.heap.modify a.block g } ∧ ∀ c e fr, ∃ fr', g (.cells c e fr) = .cells c e fr' := by
  unfold World.freeze
  rw [if_neg (by decide)]
  refine ⟨_, rfl, ?_⟩
  rintro c e ⟨lo, hi⟩
  exact ⟨_, rfl⟩

def aconv2 (P : Program) (ro : Nat) (S : St) (src dst : TypeId) (x : Value) : Option (Value × St) :=
  match Nat.beq src dst with
  | false => none
  | true => match P.underlying src with
    | some (.slice e) => match P.underlying e with
      | some (.int .u8) => match x with
        | .slice (some ⟨b, off, none⟩) n c => match S.h.get b with
          | some (.row fl el cs) => cond (Nat.blt 0 n && Nat.ble ro b) (some (.slice (some ⟨b, off, none⟩) n c, ⟨S.h.set b (some (.row .arg el cs)), S.next⟩)) none
          | _ => none
        | _ => none
      | _ => none
    | _ => none

theorem aconv2_sound (hw : WR P ρ w S.h.get) {src dst : TypeId} {x' x r : Value} (hx : VR ρ x' x) (h : aconv2 P ro S src dst x = some (r, S')) : Done P ro ρ S w (convert src dst x') r S' := by
  unfold aconv2 at h
  split at h
  · cases h
  · rename_i hsd
    obtain rfl := Nat.eq_of_beq_eq_true hsd
    split at h
    · rename_i e hs
      split at h
      · rename_i he
        split at h
        · rename_i b off n c
          split at h
          · rename_i fl el cs hb
            rw [ble_eq, blt_eq] at h
            cases hcc : (decide (0 < n) && decide (ro ≤ b)) with
            | false => rw [hcc] at h; cases h
            | true =>
              rw [hcc] at h
              simp only [Bool.and_eq_true, decide_eq_true_eq] at hcc
              obtain ⟨hn, hr⟩ := hcc
              simp only [cond_true, Option.some.injEq, Prod.mk.injEq] at h
              obtain ⟨rfl, rfl⟩ := h
              have key : ∀ (l : Loc) (c0 : Nat), ρ b = some l → CapR l off n c0 c → Done P ro ρ S w (convert src src (.slice (some ⟨l.blk, off + l.dis, none⟩) n c0)) (.slice (some ⟨b, off, none⟩) n c) ⟨S.h.set b (some (.row .arg el cs)), S.next⟩ := by
                intro l c0 hl hcap
                obtain ⟨l', h1, h2⟩ := hw.blk b _ hb
                rw [hl] at h1
                obtain rfl : l = l' := by simpa using h1
                obtain ⟨cc, e2, fr, ho, hc, _⟩ := h2
                have hlt : l.blk < w.heap.size := (Array.getElem?_eq_some_iff.1 ho).1
                have hsh : w.shape? l.blk = some (e2, cc.size) := by simp [World.shape?, ho]
                refine ⟨.slice (some ⟨l.blk, off + l.dis, none⟩) n c0, w.freeze ⟨l.blk, cc.size, none⟩ 1, ρ, ?_, ?_, .slice off n c0 c hl hcap⟩
                · simp [convert, run_underlying hs, run_underlying he, markStringish, hsh, freeze, Sem.run]
                · rw [get_set_eq]
                  obtain ⟨g, hg, hg2⟩ := freeze_modify w ⟨l.blk, cc.size, none⟩
                  rw [hg]
                  refine Post.turn hw hb hl hr _ (by simp) rfl rfl rfl ?_ (fun B hB => by rw [Array.getElem?_modify, if_neg (fun e => hB e.symm)])
                  show BR P ρ (w.heap.modify l.blk g)[l.blk]? _ _
                  rw [Array.getElem?_modify, if_pos rfl, ho]
                  obtain ⟨fr', hfr⟩ := hg2 cc e2 fr
                  exact ⟨cc, e2, fr', by rw [← hfr]; rfl, hc, trivial⟩
              cases hx with
              | slice _ _ c0 _ hl hcap => exact key _ _ hl hcap
              | void => omega
          · cases h
        · cases h
      · cases h
    · cases h

end
end Go.Ab

/-
  ABSTRACT HEAPS, part 11: each operation is told.
-/
import Derived.Test.YtccpckiiademmaaGreatDoorAb10
set_option linter.unusedSimpArgs false
namespace Go.Ab

section
variable {P : Program} {okS : Kn} {ro : Nat} {ρ : Rn} {S : St} {a : Act} {w : World} {f : Fr} {o : Oper}

theorem arr1 {α : Type} {xs : Array α} {t : α} (h : xs.toList = [t]) : xs = #[t] := by apply Array.ext'; simpa using h
theorem arr2 {α : Type} {xs : Array α} {t u : α} (h : xs.toList = [t, u]) : xs = #[t, u] := by apply Array.ext'; simpa using h

theorem abuiltin_sound (hw : WR P ρ w S.h.get) (hro : ro ≤ S.next) {b : Builtin} {ts : Array TypeId} {ty : TypeId} {consts : Array Bool} {args' : Array Value} {args : List Value} (hv : VRl ρ args'.toList args) {r : AR}
    (h : abuiltin P ro S b ts.toList args = some r) (hf : StepFree ρ S r) :
    ∃ u S', r = .val u S' ∧ ∃ v w' ρ', (builtin b ts ty consts args').run P w = .ok (.value v) w' ∧ Post P ro ρ S.h.get S.next w ρ' S'.h.get S'.next w' ∧ VR ρ' v u := by
  have one : ∀ {x : Value}, args = [x] → ∃ x', args' = #[x'] ∧ VR ρ x' x := fun {x} e => by
    subst e
    have h1 := hv.1
    have h2 := hv.getD 0
    match hl : args'.toList with
    | [x'] => rw [hl] at h2; exact ⟨x', arr1 hl, by simpa using h2⟩
    | [] => rw [hl] at h1; simp at h1
    | _ :: _ :: _ => rw [hl] at h1; simp at h1
  have two : ∀ {x y : Value}, args = [x, y] → ∃ x' y', args' = #[x', y'] ∧ VR ρ x' x ∧ VR ρ y' y := fun {x y} e => by
    subst e
    have h1 := hv.1
    have h2 := hv.getD 0
    have h3 := hv.getD 1
    match hl : args'.toList with
    | [x', y'] => rw [hl] at h2 h3; exact ⟨x', y', arr2 hl, by simpa using h2, by simpa using h3⟩
    | [] => rw [hl] at h1; simp at h1
    | [_] => rw [hl] at h1; simp at h1
    | _ :: _ :: _ :: _ => rw [hl] at h1; simp at h1
  have done : ∀ {s : Sem Value} {u : Value} {S' : St}, builtin b ts ty consts args' = (do pure (.value (← s))) → Done P ro ρ S w s u S' →
      ∃ v w' ρ', (builtin b ts ty consts args').run P w = .ok (.value v) w' ∧ Post P ro ρ S.h.get S.next w ρ' S'.h.get S'.next w' ∧ VR ρ' v u := fun he hd => by
    obtain ⟨v, w', ρ', h1, h2, h3⟩ := hd
    exact ⟨v, w', ρ', by rw [he]; simp [h1], h2, h3⟩
  unfold abuiltin at h
  split at h
  · -- len
    rename_i t x hts
    obtain ⟨u, h1, rfl⟩ := arOf_some h
    obtain ⟨x', rfl, hx⟩ := one rfl
    have := arr1 hts
    subst this
    exact ⟨u, S, rfl, done rfl (.pure hw (alenB_sound hw hx h1))⟩
  · -- append
    rename_i tS tX s x hts
    obtain ⟨u, S', h1, rfl⟩ := arOf2_some h
    obtain ⟨s', x', rfl, hs, hx⟩ := two rfl
    have := arr2 hts
    subst this
    exact ⟨u, S', rfl, done rfl (aappend_sound hw hf hro hs hx h1)⟩
  · -- copy
    rename_i tD tX d x hts
    obtain ⟨u, S', h1, rfl⟩ := arOf2_some h
    obtain ⟨d', x', rfl, hd, hx⟩ := two rfl
    have := arr2 hts
    subst this
    exact ⟨u, S', rfl, done rfl (acopy_sound hw hd hx h1)⟩
  · -- min
    rename_i x rest
    split at h
    · rename_i k n
      obtain ⟨u, h1, rfl⟩ := arOf_some h
      match hl : args'.toList with
      | [] => have h1 := hv.1; rw [hl] at h1; simp at h1
      | y :: ys =>
        have h2 := hv.getD 0
        rw [hl] at h2
        simp at h2
        cases h2
        have ht : VRl ρ ys rest := by have := hv.drop 1; rw [hl] at this; simpa using this
        have h3 := amm_sound (P := P) (w := w) (mx := false) ⟨k, n, rfl⟩ ht h1
        obtain ⟨k2, n2, rfl⟩ := h3.2
        refine ⟨_, S, rfl, done (s := Builtin.min_ ts ty args') rfl (.pure hw ⟨.int k2 n2, ?_, .int _ _⟩)⟩
        simp only [Builtin.min_, hl]
        exact h3.1
    · cases h
  · -- max
    rename_i x rest
    split at h
    · rename_i k n
      obtain ⟨u, h1, rfl⟩ := arOf_some h
      match hl : args'.toList with
      | [] => have h1 := hv.1; rw [hl] at h1; simp at h1
      | y :: ys =>
        have h2 := hv.getD 0
        rw [hl] at h2
        simp at h2
        cases h2
        have ht : VRl ρ ys rest := by have := hv.drop 1; rw [hl] at this; simpa using this
        have h3 := amm_sound (P := P) (w := w) (mx := true) ⟨k, n, rfl⟩ ht h1
        obtain ⟨k2, n2, rfl⟩ := h3.2
        refine ⟨_, S, rfl, done (s := Builtin.max_ ts ty args') rfl (.pure hw ⟨.int k2 n2, ?_, .int _ _⟩)⟩
        simp only [Builtin.max_, hl]
        exact h3.1
    · cases h
  · -- delete
    rename_i t tr m k hts
    split at h
    · rename_i S' h1
      simp only [Option.some.injEq] at h
      subst h
      obtain ⟨m', k', rfl, hm, hk⟩ := two rfl
      have hd : Done P ro ρ S w (Builtin.delete_ ts ty #[m', k']) (.tuple #[]) S' := by
        have := adelete_sound (tk := 0) (ty := ty) hw hm hk h1
        obtain ⟨v, w', ρ', h3, h4, h5⟩ := this
        refine ⟨v, w', ρ', ?_, h4, h5⟩
        rw [← h3]
        have ht0 : ts[0]? = some t := by
          have : ts.toList[0]? = some t := by rw [hts]; rfl
          simpa using this
        simp [Builtin.delete_, ht0]
      exact ⟨_, S', rfl, done rfl hd⟩
    · cases h
  · cases h

theorem run_callFunc (hP : ProgOK P okS) {g : FuncId} (h : enterable P g = true) (args : Array Value) (w : World) : (callFunc g args).run P w = .ok (.enter g args) w := by
  unfold enterable at h
  split at h
  · rename_i fn hfn
    have hng : ¬ fn.name = "runtime.NumGoroutine" := by have := hP.noNG g fn hfn; simpa using this
    have hb : ¬ fn.body = none := by intro e; rw [e] at h; cases h
    simp [callFunc, hfn, hng, hb]
  · cases h

theorem aext_sound (hP : ProgOK P okS) {g k : Nat} (hk : okS.ext g = k + 1) {args : List Value} {u : Value} (h : aext (k + 1) args = some u) {cargs : Array Value} (hv : VRl ρ cargs.toList args) :
    ∃ v, (callFunc g cargs).run P w = .ok (.value v) w ∧ VR ρ v u := by
  unfold aext at h
  split at h
  · rename_i s c
    have hc : cargs = #[.string s, .int .u8 c] := by
      have h1 := hv.1
      have h2 := hv.getD 0
      have h3 := hv.getD 1
      match hl : cargs.toList with
      | [x', y'] => rw [hl] at h2 h3; simp at h2 h3; cases h2; cases h3; exact arr2 hl
      | [] => rw [hl] at h1; simp at h1
      | [_] => rw [hl] at h1; simp at h1
      | _ :: _ :: _ :: _ => rw [hl] at h1; simp at h1
    subst hc
    split at h
    · rename_i hk1
      simp only [Option.some.injEq] at h
      subst h
      obtain ⟨fn, h1, h2, h3, h4, h5⟩ := hP.ext1 g (by rw [hk, hk1])
      refine ⟨_, ?_, .int _ _⟩
      rw [run_callFunc_extern h1 h2 h3 h4 h5, Lib.run_countString]
      rfl
    · rename_i hk1
      simp only [Option.some.injEq] at h
      subst h
      obtain ⟨fn, h1, h2, h3, h4, h5⟩ := hP.ext2 g (by rw [hk, hk1])
      refine ⟨_, ?_, .int _ _⟩
      rw [run_callFunc_extern h1 h2 h3 h4 h5, Lib.run_indexByteString]
      rfl
    · cases h
  · cases h

theorem ainvoke_sound {P : Program} {t : TypeId} {name : String} {g : FuncId} (h : ainvoke P t name = some g) (v : Value) (w : World) (n : Nat) : (method (n + 1) t v name).run P w = .ok (g, v) w := by
  unfold ainvoke at h
  split at h
  · rename_i i hi
    split at h
    · rename_i m hm
      split at h
      · rename_i hp
        split at h
        · rename_i f hf
          split at h
          · rename_i e hu
            simp only [Option.some.injEq] at h
            subst h
            simp [method, run_typeInfo hi, hm, hp, follow, hf, receiverAt, run_underlying hu, Place.get]
          · cases h
        · cases h
      · cases h
    · cases h
  · cases h

theorem acallOp_sound (hP : ProgOK P okS) (hw : WR P ρ w S.h.get) (ht : TR ρ a.tmps f) (hro : ro ≤ S.next) {c : Call} (ho : o.op = .call c) {r : AR} (h : acallOp P okS ro f S c = some r) (hf : StepFree ρ S r) : StepOK P ro ρ S a w o r := by
  unfold acallOp at h
  split at h
  · cases h
  · rename_i args hargs
    have hva := avals_sound hw ht hargs
    have hmap : (c.args.map a.eval).toList = c.args.toList.map a.eval := by simp
    split at h
    · rename_i b hcal
      obtain ⟨u, S', rfl, v, w', ρ', h1, h2, h3⟩ := abuiltin_sound (ty := o.type) (consts := c.args.map fun | .const _ => true | _ => false) (args' := c.args.map a.eval) hw hro (by rw [hmap]; exact hva) h hf
      refine ⟨.value v, v, w', ρ', ?_, .inl rfl, h2, h3⟩
      simp only [execOp, ho, resolve, hcal, Sem.run_bind, Sem.run_pure, Result.andThen_ok, invoke]
      exact h1
    · rename_i x hcal
      split at h
      · rename_i g fst caps hx
        have hv := aval_sound hw ht hx
        generalize hfv : a.eval x = fv at hv
        cases hv with
        | func _ xs _ hs hh =>
        have hall : VRl ρ (c.args.map a.eval ++ xs).toList (args ++ caps.toList) := by
          rw [Array.toList_append, hmap]
          exact hva.append (VRs.toList ⟨hs, hh⟩)
        split at h
        · cases he : enterable P g with
          | false => simp [he] at h
          | true =>
            simp only [he, cond_true, Option.some.injEq] at h
            subst h
            refine ⟨c.args.map a.eval ++ xs, ?_, ?_⟩
            · simp only [execOp, ho, resolve, hcal, hfv, Deferred.ofValue, Sem.run_bind, Sem.run_pure, Result.andThen_ok, invoke]
              have := run_callFunc hP he (#[] ++ c.args.map a.eval ++ xs) w
              rw [this]
              simp
            · exact hall
        · rename_i k hk
          obtain ⟨u, h1, rfl⟩ := arOf_some h
          obtain ⟨v, h2, h3⟩ := aext_sound (w := w) hP hk h1 hall
          refine ⟨.value v, v, w, ρ, ?_, .inl rfl, .refl hw, h3⟩
          simp only [execOp, ho, resolve, hcal, hfv, Deferred.ofValue, Sem.run_bind, Sem.run_pure, Result.andThen_ok, invoke]
          rw [← h2]
          simp
      · cases h
    · rename_i rc name hcal
      split at h
      · rename_i t v hx
        have hv := aval_sound hw ht hx
        generalize hfv : a.eval rc = fv at hv
        cases hv with
        | iface _ v' _ hv' =>
        split at h
        · rename_i g hg
          split at h
          · cases he : enterable P g with
            | false => simp [he] at h
            | true =>
              simp only [he, cond_true, Option.some.injEq] at h
              subst h
              refine ⟨#[v'] ++ c.args.map a.eval, ?_, ?_⟩
              · simp only [execOp, ho, resolve, hcal, hfv, Sem.run_bind, Sem.run_pure, Result.andThen_ok, invoke]
                have h0 : (#[Value.iface t v'] ++ c.args.map a.eval)[0]? = some (.iface t v') := by rw [Array.getElem?_append_left (by simp)]; rfl
                have h1 : (#[Value.iface t v'] ++ c.args.map a.eval).extract 1 (#[Value.iface t v'] ++ c.args.map a.eval).size = c.args.map a.eval := by
                  apply Array.ext'
                  simp
                  exact List.take_of_length_le (by simp)
                simp only [h0, h1, callMethod, Sem.run_bind]
                have h2 : ∀ k, (method (k + Made.depth) t v' name).run P w = .ok (g, v') w := fun k => by
                  rw [show k + Made.depth = (k + Made.depth - 1) + 1 by have : 0 < Made.depth := by decide
                                                                        omega]
                  exact ainvoke_sound hg v' w _
                simp only [run_program, Result.andThen_ok, h2]
                exact run_callFunc hP he _ w
              · rw [Array.toList_append, hmap]
                exact .cons hv' hva
          · cases h
        · cases h
      · cases h

theorem aop_sound (hP : ProgOK P okS) (hw : WR P ρ w S.h.get) (ht : TR ρ a.tmps f) (hro : ro ≤ S.next) {r : AR} (h : aop P okS ro f S o = some r) (hf : StepFree ρ S r) : StepOK P ro ρ S a w o r := by
  rw [aop_eq] at h
  unfold aopS at h
  split at h
  · -- move
    rename_i x ho
    obtain ⟨u, h1, rfl⟩ := arOf_some h
    exact .ofPure hw (s := pure (a.eval x)) (by simp only [execOp, ho]; rfl) ⟨a.eval x, rfl, aval_sound hw ht h1⟩
  · rename_i x ho
    obtain ⟨u, h1, rfl⟩ := arOf_some h
    exact .ofPure hw (s := pure (a.eval x)) (by simp only [execOp, ho]; rfl) ⟨a.eval x, rfl, aval_sound hw ht h1⟩
  · -- pick
    rename_i c x y ho
    split at h
    · rename_i hc
      split at h
      · obtain ⟨u, h1, rfl⟩ := arOf_some h
        have hb := aval_sound hw ht hc
        generalize hcv : a.eval c = cv at hb
        cases hb
        refine ⟨.value (a.eval x), a.eval x, w, ρ, ?_, .inl rfl, .refl hw, aval_sound hw ht h1⟩
        simp [execOp, ho, hcv, asBool]
      · cases h
    · rename_i hc
      split at h
      · obtain ⟨u, h1, rfl⟩ := arOf_some h
        have hb := aval_sound hw ht hc
        generalize hcv : a.eval c = cv at hb
        cases hb
        refine ⟨.value (a.eval y), a.eval y, w, ρ, ?_, .inl rfl, .refl hw, aval_sound hw ht h1⟩
        simp [execOp, ho, hcv, asBool]
      · cases h
    · cases h
  · -- alloc
    rename_i t ho
    split at h
    · rename_i z hz
      simp only [Option.some.injEq] at h
      subst h
      exact .ofDone (by simp only [execOp, ho]) (aalloc_sound hw hf hro hz)
    · cases h
  · -- box
    rename_i t x ho
    split at h
    · rename_i v hv
      simp only [Option.some.injEq] at h
      subst h
      exact .ofDone (by simp only [execOp, ho]) (abox_sound hw hf hro (aval_sound hw ht hv))
    · cases h
  · -- build
    rename_i t parts ho
    split at h
    · rename_i ps hps
      obtain ⟨u, h1, rfl⟩ := arOf_some h
      exact .ofPure hw (s := Instr.build t (parts.map fun (i, x) => (i, a.eval x))) (by simp only [execOp, ho]) (abuild_sound (by simpa using aparts_sound hw ht hps) h1)
    · cases h
  · -- buildSlice
    rename_i t n parts ho
    split at h
    · rename_i ps hps
      rw [blt_eq] at h
      by_cases hn : n < UNK
      · simp only [hn, decide_true, cond_true] at h
        obtain ⟨u, S', h1, rfl⟩ := arOf2_some h
        exact .ofDone (s := Instr.buildSlice t n (parts.map fun (i, x) => (i, a.eval x))) (by simp only [execOp, ho]) (abuildSlice_sound hw hf hro (by simpa using aparts_sound hw ht hps) hn h1)
      · simp [hn] at h
    · cases h
  · -- load
    rename_i t x ho
    split at h
    · rename_i v hv
      obtain ⟨u, h1, rfl⟩ := arOf_some h
      exact .ofPure hw (by simp only [execOp, ho]) (aload_sound hw (aval_sound hw ht hv) h1)
    · cases h
  · -- store
    rename_i t x y ho
    split at h
    · rename_i av hav
      split at h
      · rename_i v hv
        obtain ⟨S', h1, rfl⟩ := arOfS_some h
        exact .ofUnit (by simp only [execOp, ho]) (astore_sound hw (aval_sound hw ht hav) (aval_sound hw ht hv) h1)
      · cases h
    · cases h
  · -- nilCheck
    rename_i x ho
    split at h
    · rename_i v hv
      have hvv := aval_sound hw ht hv
      generalize hxv : a.eval x = xv at hvv
      split at h
      · cases h
      · cases h
      · cases h
      · simp only [Option.some.injEq] at h
        subst h
        cases hvv with
        | ptr off hl => exact ⟨.value _, _, w, ρ, by simp [execOp, ho, hxv], .inl rfl, .refl hw, .ptr off hl⟩
      · simp only [Option.some.injEq] at h
        subst h
        cases hvv with
        | func g xs _ hs hh => exact ⟨.value (.func (.func g) #[] xs), _, w, ρ, by simp [execOp, ho, hxv], .inl rfl, .refl hw, .func g xs _ hs hh⟩
      · cases h
    · cases h
  · -- binOp
    rename_i op t x y yt ho
    split at h
    · rename_i u hu
      split at h
      · rename_i v hv
        obtain ⟨q, h1, rfl⟩ := arOf_some h
        exact .ofPure hw (s := do eqGuard op t x y (a.eval x) (a.eval y); binOp op t (a.eval x) (a.eval y)) (by simp only [execOp, ho]) (abin_sound hP.stood hP.guard hw (aval_sound hw ht hu) (aval_sound hw ht hv) h1)
      · cases h
    · cases h
  · -- unOp
    rename_i op t x ho
    split at h
    · rename_i v hv
      have hvv := aval_sound hw ht hv
      generalize hxv : a.eval x = xv at hvv
      split at h
      · simp only [Option.some.injEq] at h
        subst h
        cases hvv
        exact ⟨.value _, _, w, ρ, by simp [execOp, ho, hxv, Op.unary], .inl rfl, .refl hw, .bool _⟩
      · simp only [Option.some.injEq] at h
        subst h
        cases hvv
        exact ⟨.value _, _, w, ρ, by simp [execOp, ho, hxv, Op.unary, Op.intArith], .inl rfl, .refl hw, .int _ _⟩
      · simp only [Option.some.injEq] at h
        subst h
        cases hvv
        exact ⟨.value _, _, w, ρ, by simp [execOp, ho, hxv, Op.unary, intBits_xor], .inl rfl, .refl hw, .int _ _⟩
      · cases h
    · cases h
  · -- convert
    rename_i s d x ho
    split at h
    · rename_i v hv
      split at h
      · rename_i r0 hr0
        obtain ⟨u, S', h1, rfl⟩ := arOf2_some h
        simp only [Option.some.injEq] at h1
        subst h1
        exact .ofDone (by simp only [execOp, ho]) (aconv_sound hw hf hro (aval_sound hw ht hv) hr0)
      obtain ⟨u, S', h1, rfl⟩ := arOf2_some h
      exact .ofDone (by simp only [execOp, ho]) (aconv2_sound hw (aval_sound hw ht hv) h1)
    · cases h
  · -- makeInterface
    rename_i t x ho
    split at h
    · rename_i v hv
      split at h
      · cases h
      · rename_i d hne hd
        simp only [Option.some.injEq] at h
        subst h
        refine ⟨.value (.iface t (a.eval x)), _, w, ρ, ?_, .inl rfl, .refl hw, .iface t _ _ (aval_sound hw ht hv)⟩
        cases d <;> first | exact absurd rfl (hne _) | simp [execOp, ho, Instr.makeInterface, run_underlying hd]
      · cases h
    · cases h
  · -- makeFunc
    rename_i g first caps ho
    split at h
    · rename_i hfst
      split at h
      · rename_i vs hvs
        simp only [Option.some.injEq] at h
        subst h
        have hva := avals_sound hw ht hvs
        have hf0 : first = #[] := by apply Array.ext'; simpa using hfst
        subst hf0
        refine ⟨.value (.func (.func g) #[] (caps.map a.eval)), _, w, ρ, by simp [execOp, ho, Instr.makeFunc], .inl rfl, .refl hw, ?_⟩
        have := hva.toArray
        rw [show (caps.toList.map a.eval).toArray = caps.map a.eval by apply Array.ext'; simp] at this
        exact .func g _ _ this.1 this.2
      · cases h
    · cases h
  · -- makeMap
    rename_i t r' ho
    split at h
    · rename_i v hv
      obtain ⟨u, S', h1, rfl⟩ := arOf2_some h
      exact .ofDone (by simp only [execOp, ho]) (amakeMap_sound hw hf hro (aopt_sound hw ht hv) h1)
    · cases h
  · -- makeSlice
    rename_i t l c ho
    split at h
    · rename_i lv hlv
      split at h
      · rename_i cv hcv
        obtain ⟨u, S', h1, rfl⟩ := arOf2_some h
        exact .ofDone (by simp only [execOp, ho]) (amakeSlice_sound hw hf hro (aval_sound hw ht hlv) (aval_sound hw ht hcv) h1)
      · cases h
    · cases h
  · -- slice
    rename_i t x lo hi mx ho
    split at h
    · rename_i v hv
      split at h
      · rename_i l hl
        split at h
        · rename_i hh hhh
          split at h
          · rename_i m hm
            obtain ⟨u, h1, rfl⟩ := arOf_some h
            exact .ofPure hw (by simp only [execOp, ho]) (aslice_sound (aval_sound hw ht hv) (aopt_sound hw ht hl) (aopt_sound hw ht hhh) (aopt_sound hw ht hm) h1)
          · cases h
        · cases h
      · cases h
    · cases h
  · -- fieldAddr
    rename_i t x k ho
    split at h
    · rename_i v hv
      obtain ⟨u, h1, rfl⟩ := arOf_some h
      exact .ofPure hw (by simp only [execOp, ho]) (afieldAddr_sound (aval_sound hw ht hv) h1)
    · cases h
  · -- field
    rename_i t x k ho
    split at h
    · rename_i v hv
      obtain ⟨u, h1, rfl⟩ := arOf_some h
      exact .ofPure hw (by simp only [execOp, ho]) (afield_sound (aval_sound hw ht hv) h1)
    · cases h
  · -- indexAddr
    rename_i t x i ho
    split at h
    · rename_i v hv
      split at h
      · rename_i iv hiv
        obtain ⟨u, h1, rfl⟩ := arOf_some h
        exact .ofPure hw (by simp only [execOp, ho]) (aindexAddr_sound (aval_sound hw ht hv) (aval_sound hw ht hiv) h1)
      · cases h
    · cases h
  · -- index
    rename_i t x i ho
    split at h
    · rename_i v hv
      split at h
      · rename_i iv hiv
        obtain ⟨u, h1, rfl⟩ := arOf_some h
        exact .ofPure hw (by simp only [execOp, ho]) (aindex_sound (aval_sound hw ht hv) (aval_sound hw ht hiv) h1)
      · cases h
    · cases h
  · -- lookup
    rename_i t x k ok ho
    split at h
    · rename_i v hv
      split at h
      · rename_i kv hkv
        obtain ⟨u, h1, rfl⟩ := arOf_some h
        exact .ofPure hw (by simp only [execOp, ho]) (alookup_sound hw (aval_sound hw ht hv) (aval_sound hw ht hkv) h1)
      · cases h
    · cases h
  · -- mapUpdate
    rename_i t m k x ho
    split at h
    · rename_i mv hmv
      split at h
      · rename_i kv hkv
        split at h
        · rename_i v hv
          obtain ⟨S', h1, rfl⟩ := arOfS_some h
          exact .ofUnit (by simp only [execOp, ho]) (amapUpdate_sound hw (aval_sound hw ht hmv) (aval_sound hw ht hkv) (aval_sound hw ht hv) h1)
        · cases h
      · cases h
    · cases h
  · -- range
    rename_i t x ho
    split at h
    · rename_i v hv
      obtain ⟨u, S', h1, rfl⟩ := arOf2_some h
      exact .ofDone (by simp only [execOp, ho]) (arange_sound hw hf hro (aval_sound hw ht hv) h1)
    · cases h
  · -- next
    rename_i x isS ho
    split at h
    · rename_i v hv
      obtain ⟨u, S', h1, rfl⟩ := arOf2_some h
      exact .ofDone (s := Instr.next (a.eval x) isS o.type) (by simp only [execOp, ho]) (anext_sound hw (aval_sound hw ht hv) h1)
    · cases h
  · -- entry
    rename_i x ho
    split at h
    · rename_i v hv
      obtain ⟨u, h1, rfl⟩ := arOf_some h
      exact .ofPure hw (by simp only [execOp, ho]) (aentry_sound hw (aval_sound hw ht hv) h1)
    · cases h
  · -- extract
    rename_i t i ho
    split at h
    · rename_i vs hvs
      obtain ⟨u, h1, rfl⟩ := arOf_some h
      have hvv := aval_sound hw ht hvs
      generalize htv : a.eval t = tv at hvv
      cases hvv with
      | tuple xs _ hs hh =>
        obtain ⟨x, h2, h3⟩ := (VRs.toList ⟨hs, hh⟩).at h1
        have h2' : xs[i]? = some x := by simpa using h2
        exact ⟨.value x, x, w, ρ, by simp [execOp, ho, htv, Instr.extract, h2'], .inl rfl, .refl hw, h3⟩
    · cases h
  · -- call
    rename_i c ho
    exact acallOp_sound hP hw ht hro ho h hf
  · cases h

end
end Go.Ab

/-
  SYMBOLIC RUNS, part 4: an operation, told; regions in the order of the text.
-/
import Derived.Test.YtccpckiiademmaaGreatDoorNr3
set_option linter.unusedSimpArgs false
set_option linter.unusedVariables false
namespace Go.Ab

section
variable {E : Env} {Q : AX → Fr → St → Prop} {R : Value → St → Prop} {P : Program} {kn : Kn} {ps : FuncId → Option (List Value → Option Value)} {ro : Nat} {K : Tab} {S : St} {tp : Tp} {f : Fr} {o : Oper} {low : Bool} {k : Value → Tab → NT}

/-- What an operation comes to. -/
def OpTold (E : Env) (Q : AX → Fr → St → Prop) (R : Value → St → Prop) (ps : FuncId → Option (List Value → Option Value)) (low : Bool) (ro : Nat) (K : Tab) (S : St) (k : Value → Tab → NT) (q : Option AR) : Prop :=
  (∃ v S' K' tp', q = some (.val v S') ∧ TOK ro K' S' ∧ Step K S K' S' ∧ VC E Q R (k v K') tp') ∨
  (∃ g args p v tp', q = some (.call g args) ∧ ps g = some p ∧ p args = some v ∧ VC E Q R (k v K) tp') ∨
  (∃ g args tp', q = some (.call g args) ∧ ps g = none ∧ VC E Q R (match low with | true => .lcall g args K fun v N => k v (tapp K N) | false => .call g args K k) tp')

theorem OpTold.val {v : Value} (hK : TOK ro K S) (h : VC E Q R (k v K) tp) : OpTold E Q R ps low ro K S k (arOf S (some v)) := .inl ⟨v, S, K, tp, rfl, hK, Step.refl K S, h⟩

theorem OpTold.told {q : Option (Value × St)} (h : Told E Q R ro K S k q) : OpTold E Q R ps low ro K S k (arOf2 q) := by
  obtain ⟨v, S', K', tp', rfl, h1, h2, h3⟩ := h
  exact .inl ⟨v, S', K', tp', rfl, h1, h2, h3⟩

theorem nbox_sound {t : TypeId} {v : Value} (hK : TOK ro K S) (h : VC E Q R (nbox t v K k) tp) : OpTold E Q R ps low ro K S k (some (.val (abox S t v).1 (abox S t v).2)) := by
  unfold nbox at h
  obtain ⟨tp1, K', h1, h2, h3⟩ := vc_new hK h
  exact .inl ⟨_, _, K', tp1, rfl, h1, h2, h3⟩

theorem abin_nil {op : BinOp} {t : TypeId} {x y v : Value} (h : abin P kn.okS .nil op t x y = some v) : abin P kn.okS S.h op t x y = some v := by
  have key : ∀ (n : Nat) (t : TypeId) (x y : Value) (r : Bool), aeq P kn.okS .nil n t x y = some r → aeq P kn.okS S.h n t x y = some r := by
    intro n
    induction n with
    | zero => intro t x y r h; simp [aeq] at h
    | succ n ih =>
      intro t x y r h
      unfold aeq at h ⊢
      have hf : ∀ (fs : List Field) (xs ys : Array Value) (r : Bool), aeqFields (aeq P kn.okS .nil n) P xs ys fs = some r → aeqFields (aeq P kn.okS S.h n) P xs ys fs = some r := by
        intro fs
        induction fs with
        | nil => intro xs ys r h; exact h
        | cons fd fs ihf =>
          intro xs ys r h
          simp only [aeqFields] at h ⊢
          split
          · rename_i hn
            rw [if_pos hn] at h
            split at h
            · rename_i a ha
              split at h
              · rename_i b hb
                try simp only [ha, hb]
                cases he : aeq P kn.okS .nil n fd.type a b with
                | none => rw [he] at h; cases h
                | some c =>
                  rw [he] at h
                  rw [ih _ _ _ _ he]
                  cases c with
                  | true => exact ihf xs ys r h
                  | false => exact h
              · cases h
            · cases h
          · rename_i hn
            rw [if_neg hn] at h
            exact ihf xs ys r h
      split at h
      · cases h
      · rename_i D hD
        try simp only [hD]
        split at h <;> first
          | exact h
          | skip
        · rename_i e b o b' o'
          cases h1 : Nat.beq (P.cellsOf e) 0 with
          | true => rw [h1] at h; cases h
          | false =>
            rw [h1] at h
            cases h2 : Nat.beq b b' with
            | true => rw [h2] at h; exact h
            | false => rw [h2] at h; simp [isCls, Tr.get] at h
        · rename_i fields xs ys
          cases h1 : kn.okS t with
          | false => rw [h1] at h; cases h
          | true =>
            rw [h1] at h
            exact hf _ _ _ _ h
  unfold abin at h ⊢
  split at h
  · exact h
  · exact h
  · split at h
    · split at h
      · rename_i r hr
        rw [key _ _ _ _ _ hr]; exact h
      · cases h
    · split at h
      · rename_i r hr
        rw [key _ _ _ _ _ hr]; exact h
      · cases h
    · cases h

theorem neqV_aeq {H : Tr Blk} : ∀ (n : Nat) (t : TypeId) (x y : Value) (r : Bool), neqV P kn.okS n t x y = some r → aeq P kn.okS H n t x y = some r
  | 0, t, x, y, r, h => by simp [neqV] at h
  | n + 1, t, x, y, r, h => by
    unfold neqV at h
    unfold aeq
    have hf : ∀ (fs : List Field) (xs ys : Array Value) (r : Bool), neqV.go P (neqV P kn.okS n) xs ys fs = some r → aeqFields (aeq P kn.okS H n) P xs ys fs = some r := by
      intro fs
      induction fs with
      | nil => intro xs ys r h; exact h
      | cons fd fs ih =>
        intro xs ys r h
        simp only [aeqFields]
        unfold neqV.go at h
        by_cases hn : fd.name ≠ "_"
        · rw [if_pos hn]
          rw [decide_eq_true hn] at h
          simp only at h
          cases ha : apart P fd.type xs fd.offset with
          | none => rw [ha] at h; cases h
          | some a =>
            cases hb : apart P fd.type ys fd.offset with
            | none => rw [ha, hb] at h; cases h
            | some b =>
              rw [ha, hb] at h
              simp only at h ⊢
              cases hr : neqV P kn.okS n fd.type a b with
              | none => rw [hr] at h; cases h
              | some c =>
                rw [hr] at h
                rw [neqV_aeq n _ _ _ _ hr]
                simp only at h
                cases fs with
                | nil =>
                  simp only [Option.some.injEq] at h
                  subst h
                  cases c <;> rfl
                | cons fd2 fs2 =>
                  simp only at h
                  cases hg : neqV.go P (neqV P kn.okS n) xs ys (fd2 :: fs2) with
                  | none => rw [hg] at h; cases h
                  | some s =>
                    rw [hg] at h
                    simp only [Option.some.injEq] at h
                    subst h
                    cases c with
                    | true => exact ih _ _ _ hg
                    | false => rfl
        · rw [if_neg hn]
          rw [decide_eq_false hn] at h
          exact ih _ _ _ h
    cases hD : P.underlying t with
    | none => rw [hD] at h; cases h
    | some D =>
      rw [hD] at h
      simp only at h ⊢
      split at h
      · exact h
      · rename_i k a k' b
        by_cases hk : k = k'
        · rw [decide_eq_true hk] at h; simp only [if_pos hk]; exact h
        · rw [decide_eq_false hk] at h; cases h
      · exact h
      · rename_i fields xs ys
        cases ho : kn.okS t with
        | false => rw [ho] at h; cases h
        | true => rw [ho] at h; exact hf _ _ _ _ h
      · cases h

theorem nbin_sound {op : BinOp} {t : TypeId} {x y : Value} {k : Value → NT} (h : VC E Q R (nbin P kn f op t x y k) tp) : ∃ u tp', abin P kn.okS S.h op t x y = some u ∧ VC E Q R (k u) tp' := by
  unfold nbin at h
  split at h
  · obtain ⟨u, tp', h1, h2⟩ := nint_sound h
    exact ⟨u, tp', h1, h2⟩
  · split at h
    · rename_i a b
      obtain ⟨h1, h2⟩ := vc_need h
      refine ⟨_, tp, ?_, h2⟩
      simp only [abin, astr, ble_eq, h1, decide_true, cond_true]
    · obtain ⟨u, h1, h2⟩ := vc_ofO h
      exact ⟨u, tp, h1, h2⟩
  · rename_i xs ys
    cases hr : neqV P kn.okS 100 t (.agg xs) (.agg ys) with
    | none => rw [hr] at h; cases op <;> exact h.elim
    | some r =>
      rw [hr] at h
      have he := neqV_aeq (H := S.h) 100 t _ _ r hr
      cases op <;> first
        | exact h.elim
        | exact ⟨_, tp, by simp only [abin, he], h⟩
  · obtain ⟨u, tp', h1, h2⟩ := vc_oV h
    exact ⟨u, tp', abin_nil h1, h2⟩

theorem pval_sound {v : Value} (h : pval P f o.op = some v) : aopS P kn ro f S o = some (.val v S) := by
  unfold aopS
  cases hop : o.op <;> rw [hop] at h <;> simp only [pval] at h <;> try (cases h; done)
  case move x => simp only [h]; rfl
  case assign x => simp only [h]; rfl
  case pick c a b =>
    simp only
    split at h
    · rename_i hc
      split at h
      · rename_i hb; simp only [hc, hb, h]; rfl
      · cases h
    · rename_i hc
      split at h
      · rename_i hb; simp only [hc, hb, h]; rfl
      · cases h
    · cases h
  case build t parts =>
    simp only
    split at h
    · rename_i hp; simp only [hp, h]; rfl
    · cases h
  case nilCheck x =>
    simp only
    split at h
    · rename_i u hx
      simp only [hx]
      split at h <;> first
        | (cases h; done)
        | (simp only [Option.some.injEq] at h; subst h; rfl)
    · cases h
  case unOp op t x =>
    simp only
    split at h
    · rename_i u hx
      simp only [hx]
      split at h <;> first
        | (cases h; done)
        | (simp only [Option.some.injEq] at h; subst h; rfl)
    · cases h
  case makeInterface t x =>
    simp only
    split at h
    · rename_i u hx
      simp only [hx]
      cases hu : P.underlying t with
      | none => rw [hu] at h; cases h
      | some d =>
        rw [hu] at h
        cases d <;> first
          | (cases h; done)
          | (simp only [Option.some.injEq] at h; subst h; rfl)
    · cases h
  case makeFunc fn first caps =>
    cases fn with
    | func g =>
      simp only at h ⊢
      split at h
      · rename_i hf
        split at h
        · rename_i vs hv
          simp only [Option.some.injEq] at h; subst h
          simp only [hf, hv]
        · cases h
      · cases h
    | _ => cases h
  case slice t x lo hi mx =>
    simp only
    split at h
    · rename_i hx
      split at h
      · rename_i hl
        split at h
        · rename_i hh
          split at h
          · rename_i hm
            simp only [hx, hl, hh, hm, h]; rfl
          · cases h
        · cases h
      · cases h
    · cases h
  case fieldAddr t x j =>
    simp only
    split at h
    · rename_i hx; simp only [hx, h]; rfl
    · cases h
  case field t x j =>
    simp only
    split at h
    · rename_i hx; simp only [hx, h]; rfl
    · cases h
  case index t x i =>
    simp only
    split at h
    · rename_i hx
      split at h
      · rename_i hi; simp only [hx, hi, h]; rfl
      · cases h
    · cases h
  case extract t i =>
    simp only
    split at h
    · rename_i hx; simp only [hx, h]; rfl
    · cases h

theorem nbuiltin_sound {b : Builtin} {ts : List TypeId} {args : List Value} (hK : TOK ro K S) (h : VC E Q R (nbuiltin P b ts args K k) tp) : OpTold E Q R ps low ro K S k (abuiltin P ro S b ts args) := by
  unfold nbuiltin at h
  unfold abuiltin
  split at h
  · obtain ⟨u, tp1, h1, h2⟩ := nlen_sound hK h
    simp only [h1]
    exact .val hK h2
  · exact .told (nappend_sound hK h)
  · exact .told (ncopy_sound hK h)
  · split at h
    · obtain ⟨v, h1, h2⟩ := vc_ofO h
      simp only [h1]
      exact .val hK h2
    · exact h.elim
  · split at h
    · obtain ⟨v, h1, h2⟩ := vc_ofO h
      simp only [h1]
      exact .val hK h2
    · exact h.elim
  · obtain ⟨S', K', tp1, h1, h2, h3, h4⟩ := ndelete_sound hK h
    simp only [h1]
    exact .inl ⟨_, S', K', tp1, rfl, h2, h3, h4⟩
  · exact h.elim

theorem nenter_sound {g : FuncId} {args : List Value} (hK : TOK ro K S) (h : VC E Q R (nenter P kn ps low g args K k) tp) :
    kn.ext g = 0 ∧ enterable P g = true ∧ OpTold E Q R ps low ro K S k (some (.call g args)) := by
  unfold nenter at h
  split at h
  · rename_i he
    split at h
    · rename_i hb
      refine ⟨he, hb, ?_⟩
      split at h
      · rename_i p hp
        obtain ⟨v, h1, h2⟩ := vc_ofO h
        exact .inr (.inl ⟨g, args, p, v, tp, rfl, hp, h1, h2⟩)
      · rename_i hp
        exact .inr (.inr ⟨g, args, tp, rfl, hp, h⟩)
    · exact h.elim
  · exact h.elim

theorem ncall_sound {c : Go.Call} (hK : TOK ro K S) (h : VC E Q R (ncall P kn ps low f c K k) tp) : OpTold E Q R ps low ro K S k (acallOp P kn ro f S c) := by
  unfold ncall at h
  unfold acallOp
  split at h
  · exact h.elim
  · rename_i args ha
    simp only [ha]
    split at h
    · rename_i b hc
      simp only [hc]
      exact nbuiltin_sound hK h
    · rename_i x hc
      simp only [hc]
      split at h
      · rename_i g _ caps hx
        simp only [hx]
        split at h
        · rename_i he
          obtain ⟨h1, h2, h3⟩ := nenter_sound hK h
          simp only [he, h2, cond_true]
          exact h3
        · rename_i j he
          obtain ⟨v, h1, h2⟩ := vc_ofO h
          simp only [he, h1]
          exact .val hK h2
      · exact h.elim
    · rename_i r name hc
      simp only [hc]
      split at h
      · rename_i t v hr
        simp only [hr]
        split at h
        · rename_i g hg
          obtain ⟨h1, h2, h3⟩ := nenter_sound hK h
          simp only [hg, h1, h2, cond_true]
          exact h3
        · exact h.elim
      · exact h.elim

theorem nop_sound (hK : TOK ro K S) (h : VC E Q R (nop P kn ps low f o.op K k) tp) : OpTold E Q R ps low ro K S k (aop P kn ro f S o) := by
  rw [aop_eq]
  unfold aopS
  unfold nop at h
  split at h
  · rename_i t ho
    obtain ⟨z, h1, h2⟩ := vc_ofO h
    simp only [ho, h1]
    exact nbox_sound hK h2
  · rename_i t x ho
    obtain ⟨v, h1, h2⟩ := vc_ofO h
    simp only [ho, h1]
    exact nbox_sound hK h2
  · rename_i t n parts ho
    split at h
    · rename_i ps' hp
      obtain ⟨h1, h2⟩ := nbuildSlice_sound hK h
      simp only [ho, hp, h2, cond_true]
      exact .told h1
    · exact h.elim
  · rename_i t x ho
    obtain ⟨v, h1, h2⟩ := vc_ofO h
    obtain ⟨u, tp1, h3, h4⟩ := nload_sound hK h2
    simp only [ho, h1, h3]
    exact .val hK h4
  · rename_i t a x ho
    obtain ⟨av, h1, h2⟩ := vc_ofO h
    obtain ⟨v, h3, h4⟩ := vc_ofO h2
    obtain ⟨S', K', tp1, h5, h6, h7, h8⟩ := nstore_sound hK h4
    simp only [ho, h1, h3, h5]
    exact .inl ⟨_, S', K', tp1, rfl, h6, h7, h8⟩
  · rename_i op t x y _ ho
    obtain ⟨u, h1, h2⟩ := vc_ofO h
    obtain ⟨v, h3, h4⟩ := vc_ofO h2
    rw [vforce_eq, vforce_eq] at h4
    obtain ⟨r, tp1, h5, h6⟩ := nbin_sound (S := S) h4
    simp only [ho, h1, h3, h5]
    exact .val hK h6
  · rename_i s d x ho
    obtain ⟨v, h1, h2⟩ := vc_ofO h
    obtain ⟨u, S', K', tp', h3, h4, h5, h6⟩ := nconvert_sound hK h2
    simp only [ho, h1, h3]
    exact .inl ⟨u, S', K', tp', rfl, h4, h5, h6⟩
  · rename_i t r ho
    split at h
    · rename_i v hv
      simp only [ho, hv]
      exact .told (nmakeMap_sound hK h)
    · exact h.elim
  · rename_i t l c ho
    obtain ⟨lv, h1, h2⟩ := vc_ofO h
    obtain ⟨cv, h3, h4⟩ := vc_ofO h2
    simp only [ho, h1, h3]
    exact .told (nmakeSlice_sound hK h4)
  · rename_i t x i ho
    obtain ⟨v, h1, h2⟩ := vc_ofO h
    obtain ⟨iv, h3, h4⟩ := vc_ofO h2
    obtain ⟨u, tp1, h5, h6⟩ := nindexAddr_sound h4
    simp only [ho, h1, h3, h5]
    exact .val hK h6
  · rename_i t x i ok ho
    obtain ⟨v, h1, h2⟩ := vc_ofO h
    obtain ⟨iv, h3, h4⟩ := vc_ofO h2
    obtain ⟨u, tp1, h5, h6⟩ := nlookup_sound hK h4
    simp only [ho, h1, h3, h5]
    exact .val hK h6
  · rename_i t m x v ho
    obtain ⟨mv, h1, h2⟩ := vc_ofO h
    obtain ⟨kv, h3, h4⟩ := vc_ofO h2
    obtain ⟨vv, h5, h6⟩ := vc_ofO h4
    obtain ⟨S', K', tp1, h7, h8, h9, h10⟩ := nmapUpdate_sound hK h6
    simp only [ho, h1, h3, h5, h7]
    exact .inl ⟨_, S', K', tp1, rfl, h8, h9, h10⟩
  · rename_i t x lo hi mx ho
    obtain ⟨v, tp1, h1, h2⟩ := vc_oV h
    rw [← ho] at h1
    have := pval_sound (kn := kn) (ro := ro) (S := S) h1
    unfold aopS at this
    rw [this]
    exact .val hK h2
  · rename_i t x i ho
    obtain ⟨v, tp1, h1, h2⟩ := vc_oV h
    rw [← ho] at h1
    have := pval_sound (kn := kn) (ro := ro) (S := S) h1
    unfold aopS at this
    rw [this]
    exact .val hK h2
  · rename_i c ho
    have := ncall_sound (P := P) (kn := kn) hK h
    rw [ho]
    exact this
  · obtain ⟨v, h1, h2⟩ := vc_ofO h
    have := pval_sound (kn := kn) (ro := ro) (S := S) h1
    unfold aopS at this
    rw [this]
    exact .val hK h2

end
end Go.Ab

/-
  ABSTRACT HEAPS, part 14: a region that draws its order, whatever order is drawn.
-/
import Derived.Test.YtccpckiiademmaaGreatDoorAb13
set_option linter.unusedSimpArgs false
namespace Go.Ab

/-! ### an operation looks at its operands alone -/

theorem aval_congr {f g : Fr} {x : Operand} (h : ∀ t, x = .tmp t → f.get t = g.get t) : aval f x = aval g x := by
  cases x with
  | tmp t => simp only [aval, h t rfl]
  | _ => rfl

section
variable {P : Program} {okS : Kn} {ro : Nat} {S : St} {o : Oper} {f g : Fr}

theorem avals_congr : ∀ {xs : List Operand}, (∀ x, x ∈ xs → aval f x = aval g x) → avals f xs = avals g xs
  | [], _ => rfl
  | x :: xs, h => by
    simp only [avals]
    rw [h x (by simp), avals_congr (fun y hy => h y (by simp [hy]))]

theorem aparts_congr : ∀ {xs : List (Nat × Operand)}, (∀ x, x ∈ xs.map (·.2) → aval f x = aval g x) → aparts f xs = aparts g xs
  | [], _ => rfl
  | (i, x) :: xs, h => by
    simp only [aparts]
    rw [h x (by simp), aparts_congr (fun y hy => h y (by simp at hy ⊢; right; exact hy))]

theorem aopt_congr {x : Option Operand} (h : ∀ y, x = some y → aval f y = aval g y) : aopt f x = aopt g x := by
  cases x with
  | none => rfl
  | some y => simp only [aopt, h y rfl]

theorem aop_congr (h : ∀ x, x ∈ o.op.operands.toList → aval f x = aval g x) : aop P okS ro f S o = aop P okS ro g S o := by
  rw [aop_eq, aop_eq]
  unfold aopS
  cases hop : o.op with
  | move x => simp only [h x (by rw [hop]; simp [Op.operands])]
  | assign x => simp only [h x (by rw [hop]; simp [Op.operands])]
  | pick c a b => simp only [h c (by rw [hop]; simp [Op.operands]), h a (by rw [hop]; simp [Op.operands]), h b (by rw [hop]; simp [Op.operands])]
  | box t x => simp only [h x (by rw [hop]; simp [Op.operands])]
  | build t ps => simp only [aparts_congr (xs := ps.toList) (fun x hx => h x (by rw [hop]; simpa [Op.operands] using hx))]
  | buildSlice t n ps => simp only [aparts_congr (xs := ps.toList) (fun x hx => h x (by rw [hop]; simpa [Op.operands] using hx))]
  | load t x => simp only [h x (by rw [hop]; simp [Op.operands])]
  | store t x y => simp only [h x (by rw [hop]; simp [Op.operands]), h y (by rw [hop]; simp [Op.operands])]
  | nilCheck x => simp only [h x (by rw [hop]; simp [Op.operands])]
  | binOp op t x y yt => simp only [h x (by rw [hop]; simp [Op.operands]), h y (by rw [hop]; simp [Op.operands])]
  | unOp op t x => simp only [h x (by rw [hop]; simp [Op.operands])]
  | convert s d x => simp only [h x (by rw [hop]; simp [Op.operands])]
  | makeInterface t x => simp only [h x (by rw [hop]; simp [Op.operands])]
  | makeFunc fn first caps =>
    have e := avals_congr (f := f) (g := g) (xs := caps.toList) (fun x hx => h x (by rw [hop]; simp [Op.operands] at hx ⊢; exact .inr hx))
    cases fn with
    | func q => simp only [e]
    | _ => rfl
  | makeMap t r => simp only [aopt_congr (x := r) (fun x hx => h x (by rw [hop]; subst hx; simp [Op.operands]))]
  | makeSlice t l c => simp only [h l (by rw [hop]; simp [Op.operands]), h c (by rw [hop]; simp [Op.operands])]
  | slice t x lo hi mx => simp only [h x (by rw [hop]; simp [Op.operands]), aopt_congr (x := lo) (fun y hy => h y (by rw [hop]; subst hy; simp [Op.operands])), aopt_congr (x := hi) (fun y hy => h y (by rw [hop]; subst hy; simp [Op.operands])), aopt_congr (x := mx) (fun y hy => h y (by rw [hop]; subst hy; simp [Op.operands]))]
  | fieldAddr t x k => simp only [h x (by rw [hop]; simp [Op.operands])]
  | field t x k => simp only [h x (by rw [hop]; simp [Op.operands])]
  | indexAddr t x i => simp only [h x (by rw [hop]; simp [Op.operands]), h i (by rw [hop]; simp [Op.operands])]
  | index t x i => simp only [h x (by rw [hop]; simp [Op.operands]), h i (by rw [hop]; simp [Op.operands])]
  | lookup t x i ok => simp only [h x (by rw [hop]; simp [Op.operands]), h i (by rw [hop]; simp [Op.operands])]
  | mapUpdate t m k x => simp only [h m (by rw [hop]; simp [Op.operands]), h k (by rw [hop]; simp [Op.operands]), h x (by rw [hop]; simp [Op.operands])]
  | range t x => simp only [h x (by rw [hop]; simp [Op.operands])]
  | next x b => simp only [h x (by rw [hop]; simp [Op.operands])]
  | entry x => simp only [h x (by rw [hop]; simp [Op.operands])]
  | extract t i => simp only [h t (by rw [hop]; simp [Op.operands])]
  | call c =>
    simp only [acallOp]
    rw [avals_congr (f := f) (g := g) (fun x hx => h x (by rw [hop]; simp [Op.operands, Call.operands]; right; simpa using hx))]
    cases hc : c.callee with
    | value x => simp only [h x (by rw [hop]; simp [Op.operands, Call.operands, hc])]
    | invoke x m => simp only [h x (by rw [hop]; simp [Op.operands, Call.operands, hc])]
    | _ => rfl
  | _ => rfl

theorem looks_vals {ops : Array Oper} (h : ∀ t, t ∈ o.looksAt ops → f.get t = g.get t) (x : Operand) (hx : x ∈ o.op.operands.toList) : aval f x = aval g x :=
  aval_congr fun t e => h t (by
    subst e
    unfold Oper.looksAt
    exact List.mem_append_left _ (List.mem_filterMap.2 ⟨.tmp t, hx, rfl⟩))

theorem astep_congr {call : ACall} {ops : Array Oper} (h : ∀ t, t ∈ o.looksAt ops → f.get t = g.get t) : astep P okS call ro f S o = astep P okS call ro g S o := by
  unfold astep
  rw [aop_congr (looks_vals h)]

theorem awanted_congr {ops : Array Oper} (h : ∀ t, t ∈ o.looksAt ops → f.get t = g.get t) : awanted ops o f = awanted ops o g := by
  unfold awanted
  cases hg : o.guard with
  | none => rfl
  | some jw =>
    obtain ⟨j, want⟩ := jw
    have : ayielded ops f j = ayielded ops g j := by
      unfold ayielded
      cases hd : (ops[j]?).bind (·.dst) with
      | none => rfl
      | some t =>
        simp only
        rw [h t (by unfold Oper.looksAt; rw [hg]; simp [hd])]
    simp only [this]
end

/-! ### masks -/

theorem foldMask_bit (acc : List Nat) (j : Nat) : ∀ (l : List Edge) (s : Nat), (l.foldl (fun s e => if Region.binds .any e then s ||| (2 ^ e.on ||| (acc[e.on]?).getD 0) else s) s).testBit j = true →
    s.testBit j = true ∨ ∃ e, e ∈ l ∧ Region.binds .any e = true ∧ (e.on = j ∨ ((acc[e.on]?).getD 0).testBit j = true)
  | [], s, h => .inl h
  | e :: l, s, h => by
    simp only [List.foldl_cons] at h
    rcases foldMask_bit acc j l _ h with h1 | ⟨e', h1, h2⟩
    · by_cases hb : Region.binds .any e = true
      · simp only [hb, if_true, Nat.testBit_or, Bool.or_eq_true, Nat.testBit_two_pow, decide_eq_true_eq] at h1
        rcases h1 with h1 | h1 | h1
        · exact .inl h1
        · exact .inr ⟨e, by simp, hb, .inl h1⟩
        · exact .inr ⟨e, by simp, hb, .inr h1⟩
      · simp only [hb] at h1
        exact .inl h1
    · exact .inr ⟨e', by simp [h1], h2⟩

theorem masksGo_prefix : ∀ (l : List Oper) (acc : List Nat), (masksGo l acc).take acc.length = acc ∧ (masksGo l acc).length = acc.length + l.length
  | [], acc => by simp [masksGo]
  | o :: l, acc => by
    obtain ⟨h1, h2⟩ := masksGo_prefix l (acc ++ [maskOf acc o])
    simp only [masksGo]
    constructor
    · have := congrArg (List.take acc.length) h1
      rw [List.take_take] at this
      simpa using this
    · rw [h2]; simp; omega

theorem masksGo_at : ∀ (l : List Oper) (acc : List Nat) (i : Nat) (o : Oper), l[i]? = some o → (masksGo l acc)[acc.length + i]? = some (maskOf ((masksGo l acc).take (acc.length + i)) o)
  | [], acc, i, o, h => by simp at h
  | x :: l, acc, 0, o, h => by
    simp at h
    subst h
    simp only [masksGo, Nat.add_zero]
    obtain ⟨h1, h2⟩ := masksGo_prefix l (acc ++ [maskOf acc x])
    simp only [List.length_append, List.length_singleton] at h1 h2
    have e1 : (masksGo l (acc ++ [maskOf acc x])).take acc.length = acc := by
      have := congrArg (List.take acc.length) h1
      rw [List.take_take] at this
      simpa using this
    rw [e1]
    have e2 : (masksGo l (acc ++ [maskOf acc x]))[acc.length]? = ((masksGo l (acc ++ [maskOf acc x])).take (acc.length + 1))[acc.length]? := by
      rw [List.getElem?_take]; simp
    rw [e2, h1]
    simp
  | x :: l, acc, i + 1, o, h => by
    have := masksGo_at l (acc ++ [maskOf acc x]) i o (by simpa using h)
    simp only [masksGo]
    simp only [List.length_append, List.length_singleton] at this
    rw [show acc.length + (i + 1) = acc.length + 1 + i by omega]
    exact this

theorem mask_bit {ops : Array Oper} {i j : Nat} {o : Oper} (ho : ops[i]? = some o) (h : (((masksGo ops.toList [])[i]?).getD 0).testBit j = true) :
    ∃ e, e ∈ o.after.toList ∧ Region.binds .any e = true ∧ (e.on = j ∨ (e.on < i ∧ (((masksGo ops.toList [])[e.on]?).getD 0).testBit j = true)) := by
  have h1 := masksGo_at ops.toList [] i o (by simpa using ho)
  simp only [List.length_nil, Nat.zero_add] at h1
  rw [h1] at h
  simp only [Option.getD_some, maskOf] at h
  rcases foldMask_bit _ _ _ _ h with h2 | ⟨e, h2, h3, h4⟩
  · simp at h2
  · refine ⟨e, h2, h3, h4.imp id (fun h5 => ?_)⟩
    rw [List.getElem?_take] at h5
    by_cases hlt : e.on < i
    · rw [if_pos hlt] at h5; exact ⟨hlt, h5⟩
    · rw [if_neg hlt] at h5; simp at h5

theorem countP_lt {p q : Nat → Bool} : ∀ {l : List Nat} {i : Nat}, (∀ x, x ∈ l → q x = true → p x = true) → i ∈ l → p i = true → q i = false → l.countP q < l.countP p
  | [], i, _, h, _, _ => by simp at h
  | x :: l, i, hs, h, hp, hq => by
    have hle : l.countP q ≤ l.countP p := List.countP_mono_left (fun y hy => hs y (by simp [hy]))
    simp only [List.countP_cons]
    rcases List.mem_cons.1 h with rfl | h
    · rw [hp, hq]; simp; omega
    · have ih := countP_lt (fun y hy => hs y (by simp [hy])) h hp hq
      have := hs x (by simp)
      by_cases hqx : q x = true
      · rw [this hqx, hqx]; simp; omega
      · have : q x = false := by simpa using hqx
        rw [this]; simp; omega

end Go.Ab

/-
  SYMBOLIC RUNS, part 6: drawn regions are told.
-/
import Derived.Test.YtccpckiiademmaaGreatDoorNr5
set_option linter.unusedSimpArgs false
set_option linter.unusedVariables false
namespace Go.Ab

theorem bnd_of : ∀ (t : Tr Blk) (n : Nat), (∀ k b, t.get k = some b → k < n) → bnd t n = true
  | .nil, n, _ => rfl
  | .node l v r, n, h => by
    simp only [bnd, Bool.and_eq_true]
    refine ⟨?_, bnd_of l _ fun k b hk => ?_, bnd_of r _ fun k b hk => ?_⟩
    · cases v with
      | none => rfl
      | some b => simp only [blt_eq, decide_eq_true_eq]; exact h 0 b (by simp [Tr.get])
    · have := h (2 * k + 1) b (by
        simp only [Tr.get, cond_beq]
        rw [if_neg (by omega), if_pos (by omega), show (2 * k + 1) / 2 = k by omega]; exact hk)
      omega
    · have := h (2 * k + 2) b (by
        simp only [Tr.get, cond_beq]
        rw [if_neg (by omega), if_neg (by omega), show (2 * k + 2) / 2 - 1 = k by omega]; exact hk)
      omega

theorem tlen_nres (fp : List Nat) (w : Bool) : ∀ (K : Tab) (j : Nat), tlen (nres K fp w j) = tlen K
  | [], j => rfl
  | x :: xs, j => by simp only [nres, tlen, tlen_nres fp w xs (j + 1)]

theorem tget_nres (fp : List Nat) (w : Bool) : ∀ (K : Tab) (j i : Nat), tget (nres K fp w j) i = cond (isIn (j + i) fp) ((tget K i).map fun e => ⟨e.nm, e.blk, cond w e.rw false⟩) none
  | [], j, i => by simp [nres, tget]
  | x :: xs, j, 0 => by
    simp only [nres, tget, Nat.add_zero]
    cases isIn j fp <;> cases x <;> rfl
  | x :: xs, j, i + 1 => by
    simp only [nres, tget]
    rw [tget_nres fp w xs (j + 1) i, show j + 1 + i = j + (i + 1) by omega]

theorem tlen_nmerge (fp : List Nat) (w : Bool) : ∀ (K K1 : Tab) (j : Nat), tlen K ≤ tlen K1 → tlen (nmerge K K1 fp w j) = tlen K1
  | [], K1, j, _ => rfl
  | x :: xs, [], j, h => by simp [tlen] at h
  | x :: xs, y :: ys, j, h => by simp only [tlen] at h; simp only [nmerge, tlen]; rw [tlen_nmerge fp w xs ys (j + 1) (by omega)]

theorem tget_nmerge (fp : List Nat) (w : Bool) : ∀ (K K1 : Tab) (j i : Nat), tlen K ≤ tlen K1 → tget (nmerge K K1 fp w j) i = if i < tlen K then cond (w && isIn (j + i) fp) (tget K1 i) (tget K i) else tget K1 i
  | [], K1, j, i, _ => by simp [nmerge, tlen]
  | x :: xs, [], j, i, h => by simp [tlen] at h
  | x :: xs, y :: ys, j, 0, h => by
    rw [if_pos (show 0 < tlen (x :: xs) by simp only [tlen]; omega)]
    simp only [nmerge, tget, Nat.add_zero]
    cases (w && isIn j fp) <;> rfl
  | x :: xs, y :: ys, j, i + 1, h => by
    simp only [tlen] at h
    simp only [nmerge, tget]
    rw [tget_nmerge fp w xs ys (j + 1) i (by omega), show j + 1 + i = j + (i + 1) by omega]
    by_cases hi : i < tlen xs
    · rw [if_pos hi, if_pos (show i + 1 < tlen (x :: xs) by simp only [tlen]; omega)]
    · rw [if_neg hi, if_neg (show ¬ i + 1 < tlen (x :: xs) by simp only [tlen]; omega)]

theorem tlen_tapp : ∀ (K N : Tab), tlen (tapp K N) = tlen K + tlen N
  | [], N => by simp [tapp, tlen]
  | x :: xs, N => by simp only [tapp, tlen, tlen_tapp xs N]; omega

theorem tget_tapp : ∀ (K N : Tab) (i : Nat), tget (tapp K N) i = if i < tlen K then tget K i else tget N (i - tlen K)
  | [], N, i => by simp [tapp, tlen]
  | x :: xs, N, 0 => by simp [tapp, tlen, tget]
  | x :: xs, N, i + 1 => by
    simp only [tapp, tget, tget_tapp xs N i]
    by_cases h : i < tlen xs
    · rw [if_pos h, if_pos (show i + 1 < tlen (x :: xs) by simp only [tlen]; omega)]
    · rw [if_neg h, if_neg (show ¬ i + 1 < tlen (x :: xs) by simp only [tlen]; omega), show i + 1 - tlen (x :: xs) = i - tlen xs by simp only [tlen]; omega]

theorem isIn_iff {i : Nat} {l : List Nat} : isIn i l = true ↔ i ∈ l := by
  unfold isIn
  rw [List.any_eq_true]
  constructor
  · rintro ⟨x, h1, h2⟩; rw [Nat.eq_of_beq_eq_true h2]; exact h1
  · intro h; exact ⟨i, h, by simp⟩

/-- What names the places of a table have had. -/
structure Hist (Nm : Nat → Nat → Prop) (K : Tab) (S : St) : Prop where
  cur : ∀ i e, tget K i = some e → Nm i e.nm
  fn : ∀ i n m, Nm i n → Nm i m → n = m
  inj : ∀ i j n, Nm i n → Nm j n → i = j
  lt : ∀ i n, Nm i n → i < tlen K ∧ n < S.next

def nowNm (K : Tab) : Nat → Nat → Prop := fun i n => ∃ e, tget K i = some e ∧ e.nm = n

theorem Hist.now {ro : Nat} {K : Tab} {S : St} (h : TOK ro K S) : Hist (nowNm K) K S :=
  ⟨fun i e he => ⟨e, he, rfl⟩, fun i n m ⟨e, h1, h2⟩ ⟨e', h3, h4⟩ => by rw [h1] at h3; cases h3; rw [← h2, ← h4], fun i j n ⟨e, h1, h2⟩ ⟨e', h3, h4⟩ => h.inj i j e e' h1 h3 (h2.trans h4.symm), fun i n ⟨e, h1, h2⟩ => ⟨tget_lt h1, by rw [← h2]; exact (h.at_ i e h1).2⟩⟩

def growNm (Nm : Nat → Nat → Prop) (K K' : Tab) : Nat → Nat → Prop := fun i n => Nm i n ∨ (tlen K ≤ i ∧ nowNm K' i n)

theorem Hist.grow {ro : Nat} {Nm : Nat → Nat → Prop} {K K' : Tab} {S S' : St} (h : Hist Nm K S) (hK : TOK ro K' S') (hs : Step K S K' S' ∨ (∃ N, K' = tapp K N ∧ News S N S')) : Hist (growNm Nm K K') K' S' ∧ S.next ≤ S'.next ∧ tlen K ≤ tlen K' ∧ ∀ i n, tlen K ≤ i → growNm Nm K K' i n → S.next ≤ n := by
  have hle : S.next ≤ S'.next := by
    rcases hs with h1 | ⟨N, _, h1⟩ <;> exact h1.le
  have hlen : tlen K ≤ tlen K' := by
    rcases hs with h1 | ⟨N, rfl, _⟩
    · exact h1.len
    · rw [tlen_tapp]; omega
  have hold : ∀ i e', i < tlen K → tget K' i = some e' → ∃ e, tget K i = some e ∧ e'.nm = e.nm := by
    rcases hs with h1 | ⟨N, rfl, _⟩
    · intro i e' hi he
      obtain ⟨e, h2, h3, _⟩ := h1.old i e' hi he
      exact ⟨e, h2, h3⟩
    · intro i e' hi he
      rw [tget_tapp, if_pos hi] at he
      exact ⟨e', he, rfl⟩
  have hnew : ∀ i e, tlen K ≤ i → tget K' i = some e → S.next ≤ e.nm := by
    rcases hs with h1 | ⟨N, rfl, h1⟩
    · exact h1.new
    · intro i e hi he
      rw [tget_tapp, if_neg (by omega)] at he
      exact (h1.at_ _ e he).2
  have hnew' : ∀ i n, tlen K ≤ i → growNm Nm K K' i n → S.next ≤ n := fun i n hi hn => by
    rcases hn with h1 | ⟨_, e, h1, rfl⟩
    · have := (h.lt i n h1).1; omega
    · exact hnew i e hi h1
  refine ⟨⟨fun i e he => ?_, fun i n m hn hm => ?_, fun i j n hi hj => ?_, fun i n hn => ?_⟩, hle, hlen, hnew'⟩
  · by_cases hi : i < tlen K
    · obtain ⟨e0, h1, h2⟩ := hold i e hi he
      rw [h2]; exact .inl (h.cur i e0 h1)
    · exact .inr ⟨by omega, e, he, rfl⟩
  · rcases hn with h1 | ⟨h1, h2⟩ <;> rcases hm with h3 | ⟨h3, h4⟩
    · exact h.fn i n m h1 h3
    · have := (h.lt i n h1).1; omega
    · have := (h.lt i m h3).1; omega
    · exact (Hist.now hK).fn i n m h2 h4
  · rcases hi with h1 | ⟨h1, h2⟩ <;> rcases hj with h3 | ⟨h3, h4⟩
    · exact h.inj i j n h1 h3
    · have := (h.lt i n h1).2
      obtain ⟨e, h5, rfl⟩ := h4
      have := hnew j e h3 h5; omega
    · have := (h.lt j n h3).2
      obtain ⟨e, h5, rfl⟩ := h2
      have := hnew i e h1 h5; omega
    · exact (Hist.now hK).inj i j n h2 h4
  · rcases hn with h1 | ⟨h1, h2⟩
    · have := h.lt i n h1; omega
    · exact (Hist.now hK).lt i n h2

def RRel (Nm : Nat → Nat → Prop) (r : Rec) (x : NRec) : Prop :=
  r.o = x.o ∧ (x.solo = false → r.oi.isC = x.isC ∧ (∀ n, n ∈ r.oi.fp → ∃ i, i ∈ x.fp ∧ Nm i n) ∧ (∀ n, n ∈ r.oi.wr → x.wr = true ∧ n ∈ r.oi.fp) ∧
    (∀ i n, Nm i n → i < x.klo → n < r.oi.lo) ∧ (∀ i n, Nm i n → x.khi ≤ i → r.oi.hi ≤ n) ∧ (x.isC = false → x.klo = x.khi → r.oi.lo = r.oi.hi))

def RL (Nm : Nat → Nat → Prop) : List Rec → List NRec → Prop
  | [], [] => True
  | r :: rs, x :: xs => RRel Nm r x ∧ RL Nm rs xs
  | _, _ => False

theorem RL.length {Nm : Nat → Nat → Prop} : ∀ {rs : List Rec} {xs : List NRec}, RL Nm rs xs → rs.length = xs.length
  | [], [], _ => rfl
  | r :: rs, x :: xs, h => by simp [RL.length h.2]
  | [], _ :: _, h => h.elim
  | _ :: _, [], h => h.elim

theorem RL.snoc {Nm : Nat → Nat → Prop} {r : Rec} {x : NRec} (hr : RRel Nm r x) : ∀ {rs : List Rec} {xs : List NRec}, RL Nm rs xs → RL Nm (rs ++ [r]) (xs ++ [x])
  | [], [], _ => ⟨hr, trivial⟩
  | _ :: rs, _ :: xs, h => ⟨h.1, RL.snoc hr h.2⟩
  | [], _ :: _, h => h.elim
  | _ :: _, [], h => h.elim

theorem RL.mono {Nm Nm' : Nat → Nat → Prop} (h1 : ∀ r x, RRel Nm r x → RRel Nm' r x) : ∀ {rs : List Rec} {xs : List NRec}, RL Nm rs xs → RL Nm' rs xs
  | [], [], _ => trivial
  | _ :: rs, _ :: xs, h => ⟨h1 _ _ h.1, RL.mono h1 h.2⟩
  | [], _ :: _, h => h.elim
  | _ :: _, [], h => h.elim

theorem RL.solo {Nm Nm' : Nat → Nat → Prop} : ∀ {rs : List Rec} {xs : List NRec}, RL Nm rs xs → RL Nm' rs (xs.map fun r => { r with solo := true })
  | [], [], _ => trivial
  | _ :: rs, _ :: xs, h => ⟨⟨h.1.1, fun e => by cases e⟩, RL.solo h.2⟩
  | [], _ :: _, h => h.elim
  | _ :: _, [], h => h.elim

theorem RL.unord {Nm : Nat → Nat → Prop} {m : Nat} : ∀ {rs : List Rec} {xs : List NRec} {k : Nat}, RL Nm rs xs → RL Nm (unord m k rs) (nunord m k xs)
  | [], [], k, _ => trivial
  | r :: rs, x :: xs, k, h => by
    simp only [Go.Ab.unord, nunord]
    cases m.testBit k with
    | true => exact RL.unord h.2
    | false => exact ⟨h.1, RL.unord h.2⟩
  | [], _ :: _, k, h => h.elim
  | _ :: _, [], k, h => h.elim

theorem RL.all {Nm : Nat → Nat → Prop} {p : Rec → Bool} {q : NRec → Bool} (hp : ∀ r x, RRel Nm r x → q x = true → p r = true) : ∀ {rs : List Rec} {xs : List NRec}, RL Nm rs xs → xs.all q = true → rs.all p = true
  | [], [], _, _ => rfl
  | r :: rs, x :: xs, h, ha => by
    simp only [List.all_cons, Bool.and_eq_true] at ha ⊢
    exact ⟨hp r x h.1 ha.1, RL.all hp h.2 ha.2⟩
  | [], _ :: _, h, _ => h.elim
  | _ :: _, [], h, _ => h.elim

theorem RL.isEmpty {Nm : Nat → Nat → Prop} : ∀ {rs : List Rec} {xs : List NRec}, RL Nm rs xs → rs.isEmpty = xs.isEmpty
  | [], [], _ => rfl
  | _ :: _, _ :: _, _ => rfl
  | [], _ :: _, h => h.elim
  | _ :: _, [], h => h.elim

theorem RRel.grow {Nm Nm' : Nat → Nat → Prop} {r : Rec} {x : NRec} {b c : Nat} (h : RRel Nm r x) (h0 : ∀ i n, Nm i n → Nm' i n) (h1 : ∀ i n, Nm' i n → Nm i n ∨ (b ≤ i ∧ c ≤ n)) (hk : x.solo = false → x.klo ≤ b ∧ r.oi.hi ≤ c) : RRel Nm' r x := by
  refine ⟨h.1, fun hs => ?_⟩
  obtain ⟨h2, h3, h4, h5, h6, h7⟩ := h.2 hs
  obtain ⟨h8, h9⟩ := hk hs
  refine ⟨h2, fun n hn => ?_, h4, fun i n hn hi => ?_, fun i n hn hi => ?_, h7⟩
  · obtain ⟨i, hi, hn⟩ := h3 n hn
    exact ⟨i, hi, h0 i n hn⟩
  · rcases h1 i n hn with h | ⟨h, _⟩
    · exact h5 i n h hi
    · omega
  · rcases h1 i n hn with h | ⟨_, h⟩
    · exact h6 i n h hi
    · omega

theorem compat_of {Nm : Nat → Nat → Prop} {K : Tab} {S : St} (hN : Hist Nm K S) {r s : Rec} {x y : NRec} (hr : RRel Nm r x) (hs : RRel Nm s y) (hy : y.solo = false) (h : ncompat x y = true) : compat r.oi s.oi = true := by
  unfold ncompat at h
  cases hx : x.solo with
  | true => rw [hx] at h; cases h
  | false =>
    rw [hx] at h
    obtain ⟨a1, a2, a3, a4, a5, a6⟩ := hr.2 hx
    obtain ⟨b1, b2, b3, b4, b5, b6⟩ := hs.2 hy
    unfold compat
    rw [a1, b1]
    have nowr : ∀ {t : Rec} {z : NRec}, (∀ n, n ∈ t.oi.wr → z.wr = true ∧ n ∈ t.oi.fp) → z.wr = false → t.oi.wr = [] := fun {t z} ht hz => by
      cases hw : t.oi.wr with
      | nil => rfl
      | cons n l =>
        have := (ht n (by rw [hw]; simp)).1
        rw [hz] at this; cases this
    have dis : ∀ {t u : Rec} {z v : NRec}, (∀ n, n ∈ t.oi.fp → ∃ i, i ∈ z.fp ∧ Nm i n) → (∀ n, n ∈ t.oi.wr → z.wr = true ∧ n ∈ t.oi.fp) → (∀ n, n ∈ u.oi.fp → ∃ i, i ∈ v.fp ∧ Nm i n) → (!z.wr || ndisj z.fp v.fp) = true → disj t.oi.wr u.oi.fp = true := fun {t u z v} h1 h2 h3 h4 => by
      unfold disj
      rw [List.all_eq_true]
      intro n hn
      obtain ⟨h5, h6⟩ := h2 n hn
      rw [h5] at h4
      simp only [Bool.not_true, Bool.false_or] at h4
      rw [Bool.not_eq_true']
      cases ha : u.oi.fp.any (Nat.beq n) with
      | false => rfl
      | true =>
        exfalso
        obtain ⟨m, hm, hb⟩ := List.any_eq_true.1 ha
        have := Nat.eq_of_beq_eq_true hb
        subst this
        obtain ⟨i, hi, hi2⟩ := h1 n h6
        obtain ⟨j, hj, hj2⟩ := h3 n hm
        have := hN.inj i j n hi2 hj2
        subst this
        unfold ndisj at h4
        have := List.all_eq_true.1 h4 i hi
        rw [isIn_iff.2 hj] at this; cases this
    cases hxc : x.isC <;> cases hyc : y.isC <;> rw [hxc, hyc] at h <;> simp only at h ⊢
    · simp only [Bool.and_eq_true] at h ⊢
      refine ⟨dis a2 a3 b2 h.1, dis b2 b3 a2 h.2.1, ?_⟩
      rw [List.all_eq_true]
      intro n hn
      obtain ⟨i, hi, hi2⟩ := b2 n hn
      have := List.all_eq_true.1 h.2.2 i hi
      rw [Bool.or_eq_true, blt_eq, ble_eq, decide_eq_true_eq, decide_eq_true_eq] at this
      rw [Bool.not_eq_true']
      cases hr : inR n r.oi.lo r.oi.hi with
      | false => rfl
      | true =>
        obtain ⟨c1, c2⟩ := inR_eq.1 hr
        rcases this with h1 | h1
        · have := a4 i n hi2 h1; omega
        · have := a5 i n hi2 h1; omega
    · simp only [Bool.and_eq_true] at h
      rw [nowr a3 (by simpa using h.1)]; rfl
    · simp only [Bool.and_eq_true] at h ⊢
      refine ⟨by rw [nowr b3 (by simpa using h.1)]; rfl, ?_⟩
      rw [List.all_eq_true]
      intro n hn
      obtain ⟨i, hi, hi2⟩ := b2 n hn
      have := List.all_eq_true.1 h.2 i hi
      rw [blt_eq, decide_eq_true_eq] at this
      rw [Bool.not_eq_true']
      cases hr : inR n r.oi.lo r.oi.hi with
      | false => rfl
      | true =>
        obtain ⟨c1, c2⟩ := inR_eq.1 hr
        have := a4 i n hi2 this; omega
    · cases h

theorem erased_nil {Nm : Nat → Nat → Prop} {y : NRec} (hy : y.isC = true) : ∀ {rs : List Rec} {xs : List NRec}, RL Nm rs xs → xs.all (fun x => ncompat x y) = true → erasedOf rs = []
  | [], [], _, _ => rfl
  | r :: rs, x :: xs, h, ha => by
    simp only [List.all_cons, Bool.and_eq_true] at ha
    simp only [erasedOf]
    rw [erased_nil hy h.2 ha.2, List.append_nil]
    have h1 := ha.1
    unfold ncompat at h1
    cases hx : x.solo with
    | true => rw [hx] at h1; cases h1
    | false =>
      rw [hx] at h1
      obtain ⟨a1, a2, a3, a4, a5, a6⟩ := h.1.2 hx
      cases hxc : x.isC with
      | true => rw [hxc, hy] at h1; cases h1
      | false =>
        rw [hxc, hy] at h1
        simp only [Bool.and_eq_true] at h1
        rw [a6 hxc (Nat.eq_of_beq_eq_true h1.2)]
        simp [namesOf]
  | [], _ :: _, h, _ => h.elim
  | _ :: _, [], h, _ => h.elim

end Go.Ab

/-
  ABSTRACT HEAPS, part 5: slices, conversions, literals, new blocks.
-/
import Derived.Test.YtccpckiiademmaaGreatDoorAb4
set_option linter.unusedSimpArgs false
namespace Go.Ab

theorem abound_mono {v : Option Value} {y y' d q : Nat} (h : abound v y d = some q) (hy : y ≤ y') : abound v y' d = some q := by
  unfold abound at h
  split at h
  · exact h
  · rename_i kk i
    rw [ble_eq] at h
    by_cases hle : i ≤ y
    · simp only [hle, decide_true, cond_true] at h
      simp only [abound, ble_eq]
      rw [decide_eq_true (show i ≤ y' by omega)]
      exact h
    · simp [hle] at h
  · cases h

theorem abound_le {v : Value} {y d q : Nat} (h : abound (some v) y d = some q) : q ≤ y := by
  unfold abound at h
  split at h
  · cases ‹some v = none›
  · rename_i kk i _
    rw [ble_eq] at h
    by_cases hle : i ≤ y
    · simp only [hle, decide_true, cond_true, Option.some.injEq] at h; omega
    · simp [hle] at h
  · cases h

/-- The three bounds of a slice. -/
def abnds (n M : Nat) (lo hi mx : Option Value) : Option (Nat × Nat × Nat) :=
  cond (mx.isNone || hi.isSome)
    (match abound mx M M with
    | some m => match abound hi m n with
      | some h => match abound lo h 0 with
        | some l => some (l, h, m)
        | none => none
      | none => none
    | none => none) none

theorem abnds_spec {n M : Nat} {lo hi mx : Option Value} {l h m : Nat} (e : abnds n M lo hi mx = some (l, h, m)) :
    (mx.isNone = true ∨ hi.isSome = true) ∧ abound mx M M = some m ∧ abound hi m n = some h ∧ abound lo h 0 = some l := by
  unfold abnds at e
  cases hc : (mx.isNone || hi.isSome) with
  | false => simp [hc] at e
  | true =>
    simp only [hc, cond_true] at e
    cases h1 : abound mx M M with
    | none => simp [h1] at e
    | some m' =>
      simp only [h1] at e
      cases h2 : abound hi m' n with
      | none => simp [h2] at e
      | some h' =>
        simp only [h2] at e
        cases h3 : abound lo h' 0 with
        | none => simp [h3] at e
        | some l' =>
          simp only [h3, Option.some.injEq, Prod.mk.injEq] at e
          obtain ⟨rfl, rfl, rfl⟩ := e
          exact ⟨by simpa using hc, rfl, h2, h3⟩

theorem abnds_run {P : Program} {ρ : Rn} {w : World} {isS : Bool} {n cap M : Nat} {lo' hi' mx' lo hi mx : Option Value} (hlo : OR ρ lo' lo) (hhi : OR ρ hi' hi) (hmx : OR ρ mx' mx) {m h l : Nat}
    (e : abnds n M lo hi mx = some (l, h, m)) (hM : M ≤ cap) (hMmx : mx = none → M = cap) :
    (Instr.sliceBounds isS n cap lo' hi' mx').run P w = .ok (l, h, m) w ∧ m ≤ M ∧ (l ≤ h ∨ l = 0) := by
  obtain ⟨h0, h1, h2, h3⟩ := abnds_spec e
  obtain ⟨r1, r2, r3, r4⟩ := run_sliceBounds (P := P) (w := w) (isS := isS) hlo hhi hmx hM hMmx h0 h1 h2 h3
  refine ⟨r1, ?_, r4⟩
  cases mx with
  | none => simp [abound_none] at h1; omega
  | some v => exact r2 rfl

theorem abnds_mono {n M M' : Nat} {lo hi : Option Value} {l h m : Nat} (e : abnds n M lo hi none = some (l, h, m)) (hM : M ≤ M') (hn : n ≤ M) : abnds n M' lo hi none = some (l, h, M') ∧ h ≤ M := by
  obtain ⟨h0, h1, h2, h3⟩ := abnds_spec e
  simp only [abound_none, Option.some.injEq] at h1
  subst h1
  have h2' := abound_mono h2 hM
  refine ⟨by simp [abnds, abound_none, h2', h3], ?_⟩
  cases hi with
  | none => simp [abound_none] at h2; omega
  | some v => exact abound_le h2

def aslice (P : Program) (t : TypeId) (x : Value) (lo hi mx : Option Value) : Option Value :=
  match P.underlying t with
  | none => none
  | some D =>
    match D, x with
    | .string, .string s =>
      match mx with
      | some _ => none
      | none => match abnds s.data.toList.length s.data.toList.length lo hi none with
        | some (l, h, _) => some (.string (bsub s l h))
        | none => none
    | .slice e, .slice none n c =>
      match P.info? e with
      | none => none
      | some _ => match abnds n c lo hi mx with
        | some (l, h, m) => some (.slice none (h - l) (m - l))
        | none => none
    | .slice e, .slice (some ⟨b, off, none⟩) n c =>
      match P.info? e with
      | none => none
      | some i =>
        cond (Nat.beq b VOID)
          (match abnds 0 0 lo hi mx with
          | some _ => cond (Nat.beq n 0) (some (.slice (some ⟨VOID, 0, none⟩) 0 UNK)) none
          | none => none)
          (cond (Nat.blt c UNK)
            (match abnds n c lo hi mx with
            | some (l, h, m) => some (.slice (some ⟨b, cond (Nat.beq m l) off (off + l * i.size), none⟩) (h - l) (m - l))
            | none => none)
            (match mx with
            | some v => match abnds n n lo hi (some v) with
              | some (l, h, m) => cond (Nat.blt m UNK) (some (.slice (some ⟨b, cond (Nat.beq m l) off (off + l * i.size), none⟩) (h - l) (m - l))) none
              | none => none
            | none => match abnds n n lo hi none with
              | some (l, h, _) => cond (Nat.beq l 0) (some (.slice (some ⟨b, off, none⟩) h UNK))
                  (cond (Nat.blt l h && Nat.blt 0 i.size) (some (.slice (some ⟨b, off + l * i.size, none⟩) (h - l) UNK))
                    (cond (Nat.beq l h) (some (.slice (some ⟨VOID, 0, none⟩) 0 UNK)) none))
              | none => none))
    | .array n e, .pointer (some ⟨b, off, none⟩) =>
      match P.info? e with
      | none => none
      | some i => match abnds n n lo hi mx with
        | some (l, h, m) => cond (Nat.blt n UNK) (some (.slice (some ⟨b, cond (Nat.beq m l) off (off + l * i.size), none⟩) (h - l) (m - l))) none
        | none => none
    | _, _ => none

theorem sliced_known {P : Program} {ρ : Rn} {w : World} {t e : TypeId} {i : TypeInfo} (hd : P.underlying t = some (.slice e)) (hinf : P.info? e = some i) {b off n c M : Nat} {lc : Loc} (hlc : ρ b = some lc) {lo' hi' mx' lo hi mx : Option Value} (hlo : OR ρ lo' lo) (hhi : OR ρ hi' hi) (hmx : OR ρ mx' mx)
    {l h m : Nat} (hb : abnds n M lo hi mx = some (l, h, m)) (hM : M ≤ c) (hMmx : mx = none → M = c) (hU : m < UNK) :
    ∃ r', (Instr.slice t (.slice (some ⟨lc.blk, off + lc.dis, none⟩) n c) lo' hi' mx').run P w = .ok r' w ∧ VR ρ r' (.slice (some ⟨b, cond (Nat.beq m l) off (off + l * i.size), none⟩) (h - l) (m - l)) := by
  have hb2 := (abnds_run (P := P) (w := w) (isS := true) hlo hhi hmx hb hM hMmx).1
  rw [cond_beq]
  by_cases hml : m = l
  · refine ⟨.slice (some ⟨lc.blk, off + lc.dis, none⟩) (h - l) (m - l), ?_, ?_⟩
    · simp [Instr.slice, run_underlying hd, hb2, run_sizeOf hinf, hml]
    · rw [if_pos hml]
      exact .slice off _ _ _ hlc (.inl ⟨rfl, by omega⟩)
  · refine ⟨.slice (some ⟨lc.blk, (off + l * i.size) + lc.dis, none⟩) (h - l) (m - l), ?_, ?_⟩
    · have e1 : (⟨lc.blk, off + lc.dis, none⟩ : Addr).add (l * i.size) = ⟨lc.blk, (off + l * i.size) + lc.dis, none⟩ := by rw [add_lit]; congr 1; omega
      simp [Instr.slice, run_underlying hd, hb2, run_sizeOf hinf, hml, e1]
    · rw [if_neg hml]
      exact .slice _ _ _ _ hlc (.inl ⟨rfl, by omega⟩)

theorem abnds_zero {lo hi mx : Option Value} {l h m : Nat} (e : abnds 0 0 lo hi mx = some (l, h, m)) : l = 0 ∧ h = 0 ∧ m = 0 := by
  obtain ⟨h0, h1, h2, h3⟩ := abnds_spec e
  have z : ∀ {v : Option Value} {y q : Nat}, abound v y 0 = some q → y = 0 → q = 0 := fun {v y q} hv hy => by
    cases v with
    | none => simp [abound_none] at hv; exact hv.symm
    | some v => have := abound_le hv; omega
  have hm := z h1 rfl
  have hh := z h2 hm
  exact ⟨z h3 hh, hh, hm⟩

theorem aslice_sound {P : Program} {ρ : Rn} {w : World} {t : TypeId} {x' x r : Value} {lo' hi' mx' lo hi mx : Option Value} (hx : VR ρ x' x) (hlo : OR ρ lo' lo) (hhi : OR ρ hi' hi) (hmx : OR ρ mx' mx)
    (h : aslice P t x lo hi mx = some r) : ∃ r', (Instr.sliceAt t x' lo' hi' mx').run P w = .ok r' w ∧ VR ρ r' r := by
  unfold aslice at h
  cases hd : P.underlying t with
  | none => simp [hd] at h
  | some D =>
    simp only [hd] at h
    have hat : (∀ n e, D ≠ .array n e) → (Instr.sliceAt t x' lo' hi' mx').run P w = (Instr.slice t x' lo' hi' mx').run P w := fun hne => by
      unfold Instr.sliceAt
      rw [Sem.run_bind, run_underlying hd]
      cases D <;> first | rfl | exact absurd rfl (hne _ _)
    split at h
    · -- strings
      rename_i s
      rw [hat (by simp)]
      cases hx
      cases mx with
      | some v => simp at h
      | none =>
        cases mx' with
        | some v => exact hmx.elim
        | none =>
          dsimp only at h
          split at h
          · rename_i l hb m he
            simp only [Option.some.injEq] at h
            subst h
            have hsz : s.data.toList.length = s.size := by rw [Array.length_toList]; rfl
            rw [hsz] at he
            have hb2 := (abnds_run (P := P) (w := w) (isS := false) hlo hhi (mx' := none) (mx := none) trivial he (Nat.le_refl _) (fun _ => rfl)).1
            exact ⟨_, by simp [Instr.slice, run_underlying hd, hb2, bsub_eq], .string _⟩
          · cases h
    · -- nil
      rename_i e n c
      rw [hat (by simp)]
      cases hx
      split at h
      · cases h
      · rename_i i hinf
        split at h
        · rename_i l hb m he
          simp only [Option.some.injEq] at h
          subst h
          have hb2 := (abnds_run (P := P) (w := w) (isS := true) hlo hhi hmx he (Nat.le_refl _) (fun _ => rfl)).1
          exact ⟨.slice none (hb - l) (m - l), by simp [Instr.slice, run_underlying hd, hb2, run_sizeOf hinf], .nilslice _ _⟩
        · cases h
    · -- slices
      rename_i e b off n c
      rw [hat (by simp)]
      split at h
      · cases h
      · rename_i i hinf
        simp only [cond_beq, blt_eq] at h
        by_cases hv : b = VOID
        · rw [if_pos hv] at h
          split at h
          · rename_i q he
            by_cases hn : n = 0
            · rw [if_pos hn] at h
              simp only [Option.some.injEq] at h
              subst hn; subst h
              obtain ⟨l, hb, m⟩ := q
              obtain ⟨rfl, rfl, rfl⟩ := abnds_zero he
              obtain ⟨a, c0, rfl⟩ : ∃ a c0, x' = .slice (some a) 0 c0 := by
                cases hx with
                | slice => exact ⟨_, _, rfl⟩
                | void => exact ⟨_, _, rfl⟩
              have key : ∃ m', (Instr.sliceBounds true 0 c0 lo' hi' mx').run P w = .ok (0, 0, m') w := by
                cases mx with
                | none => exact ⟨c0, (abnds_run (P := P) (w := w) (isS := true) hlo hhi hmx (abnds_mono he (Nat.zero_le c0) (Nat.le_refl _)).1 (Nat.le_refl _) (fun _ => rfl)).1⟩
                | some v => exact ⟨0, (abnds_run (P := P) (w := w) (isS := true) hlo hhi hmx he (Nat.zero_le _) (fun e => by cases e)).1⟩
              obtain ⟨m', hm'⟩ := key
              by_cases hm0 : m' = 0
              · exact ⟨.slice (some a) 0 m', by simp [Instr.slice, run_underlying hd, hm', run_sizeOf hinf, hm0], .void _ _⟩
              · exact ⟨.slice (some (a.add 0)) 0 m', by simp [Instr.slice, run_underlying hd, hm', run_sizeOf hinf, hm0], .void _ _⟩
            · rw [if_neg hn] at h; cases h
          · cases h
        · rw [if_neg hv] at h
          cases hx with
          | void => exact absurd rfl hv
          | @slice _ lc _ _ c0 _ hlc hc =>
            by_cases hk : c < UNK
            · simp only [hk, decide_true, cond_true] at h
              have hcc : c0 = c := by
                rcases hc with ⟨h1, _⟩ | ⟨h1, _⟩
                · exact h1.symm
                · omega
              subst hcc
              split at h
              · rename_i l hb m he
                simp only [Option.some.injEq] at h
                subst h
                have hm := (abnds_run (P := P) (w := w) (isS := true) hlo hhi hmx he (Nat.le_refl _) (fun _ => rfl)).2.1
                rw [← cond_beq m l]
                exact sliced_known hd hinf hlc hlo hhi hmx he (Nat.le_refl _) (fun _ => rfl) (by omega)
              · cases h
            · simp only [hk, decide_false, cond_false] at h
              have hc' : n ≤ c0 ∧ (off = 0 → c0 = lc.cap) := by
                rcases hc with ⟨h1, h2⟩ | ⟨_, h1⟩
                · omega
                · exact h1
              cases mx with
              | some v =>
                simp only at h
                split at h
                · rename_i l hb m he
                  by_cases hmU : m < UNK
                  · simp only [hmU, decide_true, cond_true, Option.some.injEq] at h
                    subst h
                    rw [← cond_beq m l]
                    exact sliced_known hd hinf hlc hlo hhi hmx he hc'.1 (fun e => by cases e) hmU
                  · simp [hmU] at h
                · cases h
              | none =>
                simp only at h
                split at h
                · rename_i l hb m he
                  obtain ⟨he', hle⟩ := abnds_mono he hc'.1 (Nat.le_refl _)
                  have hb2 := (abnds_run (P := P) (w := w) (isS := true) hlo hhi hmx he' (Nat.le_refl _) (fun _ => rfl)).1
                  by_cases hl0 : l = 0
                  · rw [if_pos hl0] at h
                    simp only [Option.some.injEq] at h
                    subst hl0; subst h
                    by_cases hc0 : c0 = 0
                    · subst hc0
                      refine ⟨.slice (some ⟨lc.blk, off + lc.dis, none⟩) hb 0, by simp [Instr.slice, run_underlying hd, hb2, run_sizeOf hinf], .slice off _ _ _ hlc (.inr ⟨rfl, by omega, hc'.2⟩)⟩
                    · refine ⟨.slice (some ⟨lc.blk, off + lc.dis, none⟩) hb c0, by simp [Instr.slice, run_underlying hd, hb2, run_sizeOf hinf, hc0, add_lit], .slice off _ _ _ hlc (.inr ⟨rfl, by omega, hc'.2⟩)⟩
                  · rw [if_neg hl0] at h
                    cases hcond : (decide (l < hb) && decide (0 < i.size)) with
                    | true =>
                      simp only [hcond, cond_true, Option.some.injEq] at h
                      subst h
                      simp only [Bool.and_eq_true, decide_eq_true_eq] at hcond
                      have e1 : (⟨lc.blk, off + lc.dis, none⟩ : Addr).add (l * i.size) = ⟨lc.blk, (off + l * i.size) + lc.dis, none⟩ := by rw [add_lit]; congr 1; omega
                      have hne : ¬ c0 = l := by omega
                      have hpos : 0 < l * i.size := Nat.mul_pos (by omega) hcond.2
                      exact ⟨.slice (some ⟨lc.blk, (off + l * i.size) + lc.dis, none⟩) (hb - l) (c0 - l), by simp [Instr.slice, run_underlying hd, hb2, run_sizeOf hinf, hne, e1], .slice _ _ _ _ hlc (.inr ⟨rfl, by omega, fun e => by omega⟩)⟩
                    | false =>
                      simp only [hcond, cond_false] at h
                      by_cases hlh : l = hb
                      · rw [if_pos hlh] at h
                        simp only [Option.some.injEq] at h
                        subst h; subst hlh
                        by_cases hcl : c0 = l
                        · subst hcl
                          exact ⟨.slice (some ⟨lc.blk, off + lc.dis, none⟩) 0 (c0 - c0), by simp [Instr.slice, run_underlying hd, hb2, run_sizeOf hinf], .void _ _⟩
                        · exact ⟨.slice (some ((⟨lc.blk, off + lc.dis, none⟩ : Addr).add (l * i.size))) 0 (c0 - l), by simp [Instr.slice, run_underlying hd, hb2, run_sizeOf hinf, hcl], .void _ _⟩
                      · rw [if_neg hlh] at h; cases h
                · cases h
    · -- arrays
      rename_i n e b off
      cases hx with
      | @ptr _ lc _ hlc =>
        split at h
        · cases h
        · rename_i i hinf
          split at h
          · rename_i l hb m he
            rw [blt_eq] at h
            by_cases hnU : n < UNK
            · simp only [hnU, decide_true, cond_true, Option.some.injEq] at h
              subst h
              have hb2 := abnds_run (P := P) (w := w) (isS := false) hlo hhi hmx he (Nat.le_refl _) (fun _ => rfl)
              rw [cond_beq]
              by_cases hml : m = l
              · rw [if_pos hml]
                exact ⟨.slice (some ⟨lc.blk, off + lc.dis, none⟩) (hb - l) (m - l), by simp [Instr.sliceAt, run_underlying hd, Instr.sureAddr, hb2.1, run_sizeOf hinf, hml], .slice off _ _ _ hlc (.inl ⟨rfl, by omega⟩)⟩
              · rw [if_neg hml]
                have e1 : (⟨lc.blk, off + lc.dis, none⟩ : Addr).add (l * i.size) = ⟨lc.blk, (off + l * i.size) + lc.dis, none⟩ := by rw [add_lit]; congr 1; omega
                exact ⟨.slice (some ⟨lc.blk, (off + l * i.size) + lc.dis, none⟩) (hb - l) (m - l), by simp [Instr.sliceAt, run_underlying hd, Instr.sureAddr, hb2.1, run_sizeOf hinf, hml, e1], .slice _ _ _ _ hlc (.inl ⟨rfl, by omega⟩)⟩
            · simp [hnU] at h
          · cases h
    · cases h

end Go.Ab

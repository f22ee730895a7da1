/-
  MkfsGrows: the geometry is the document's; the law.
-/
import Derived.Test.YtccpckiiademmaaGreatDoorMg3
set_option linter.unusedSimpArgs false
set_option linter.unusedVariables false
namespace Go.Proofs.YtccpckiiademmaaGreatDoor
open Go Go.Ab Go.Proofs

theorem ones_all : ((List.range 4033).all fun k => (onesZ (u64 (Int.ofNat (k + 64))) == 1) == decide (pwZ (Int.ofNat (k + 64)) = Int.ofNat (k + 64))) = true := by kernel_rfl

theorem ones_iff {s : Int} (h0 : 64 ≤ s) (h1 : s ≤ 4096) : (onesZ (u64 s) == 1) = decide (pwZ s = s) := by
  have h := List.all_eq_true.1 ones_all (s.toNat - 64) (by simp; omega)
  have e : Int.ofNat (s.toNat - 64 + 64) = s := by
    have : s.toNat - 64 + 64 = s.toNat := by omega
    rw [this]; simp; omega
  rw [e] at h
  simpa using h

theorem cond_and (a b : Bool) : cond a b false = (a && b) := by cases a <;> rfl

theorem right_eq (n m s : Int) : rightB n m s = decide (1 ≤ n ∧ n ≤ 65534 ∧ 1 ≤ m ∧ m ≤ 65534 ∧ pwZ s = s) := by
  have hpw : pwZ s = s → 64 ≤ s ∧ s ≤ 4096 := by unfold pwZ; repeat' split <;> omega
  have e : ∀ a b : Int, (!(ilt a b)) = decide (b ≤ a) := fun a b => by
    cases h : ilt a b with
    | true => have := ilt_iff.1 h; simp; omega
    | false => have := ilt_false.1 h; simp; omega
  unfold rightB
  simp only [cond_and, e]
  by_cases h : 64 ≤ s ∧ s ≤ 4096
  · rw [ones_iff h.1 h.2]
    by_cases h1 : pwZ s = s <;> by_cases h2 : 1 ≤ n <;> by_cases h3 : n ≤ 65534 <;> by_cases h4 : 1 ≤ m <;> by_cases h5 : m ≤ 65534 <;> simp [h1, h2, h3, h4, h5, h.1, h.2]
  · have h1 : ¬ pwZ s = s := fun e => h (hpw e)
    by_cases h2 : 64 ≤ s
    · have h3 : ¬ s ≤ 4096 := fun e => h ⟨h2, e⟩
      simp [h1, h2, h3]
    · simp [h1, h2]

theorem lines_eq {x : Int} (h0 : 0 ≤ x) (h1 : x ≤ 1099511627776) : linesZ x = upZ x := by
  unfold linesZ w64 upZ
  rw [wrap64_id (x := x + 8) (by omega) (by omega), wrap64_id (x := x + 8 - 1) (by omega) (by omega), Int.tdiv_eq_ediv_of_nonneg (by omega), wrap64_id (x := (x + 8 - 1) / 8) (by omega) (by omega), wrap64_id (by omega) (by omega)]
  omega

theorem all_eq {n m s : Int} (hn : 1 ≤ n ∧ n ≤ 65534) (hm : 1 ≤ m ∧ m ≤ 65534) (hs : pwZ s = s) : allZ n m s = endZ n m s := by
  have hs2 : s = 64 ∨ s = 128 ∨ s = 256 ∨ s = 512 ∨ s = 1024 ∨ s = 2048 ∨ s = 4096 := by unfold pwZ at hs; repeat' split at hs <;> omega
  have h1 : slotsZ m = 16 + 8 * m := by
    unfold slotsZ w64
    rw [wrap64_id (x := m * 8) (by omega) (by omega), wrap64_id (by omega) (by omega)]; omega
  have h2 : bitmapZ n m = bmap n m := by
    unfold bitmapZ w64
    rw [h1, lines_eq (by omega) (by omega), wrap64_id (by unfold upZ; omega) (by unfold upZ; omega)]
    unfold bmap upZ; omega
  have h3 : wordsZ n = (n + 63) / 64 := by
    unfold wordsZ w64
    rw [wrap64_id (x := n + 64) (by omega) (by omega), wrap64_id (x := n + 64 - 1) (by omega) (by omega), Int.tdiv_eq_ediv_of_nonneg (by omega), wrap64_id (by omega) (by omega)]
    omega
  have hb : 0 ≤ bmap n m ∧ bmap n m ≤ 700000 := by unfold bmap upZ; omega
  have h4 : blocksZ n m = blks n m := by
    unfold blocksZ w64
    rw [h2, h3, lines_eq (by omega) (by omega), wrap64_id (by unfold upZ; omega) (by unfold upZ; omega)]
    unfold blks bmap upZ; omega
  have hk : 0 ≤ blks n m ∧ blks n m ≤ 800000 := by unfold blks upZ; omega
  unfold allZ w64
  rw [h4, Int.tdiv_eq_ediv_of_nonneg (by omega)]
  unfold endZ
  rcases hs2 with rfl | rfl | rfl | rfl | rfl | rfl | rfl <;> (rw [wrap64_id (x := _ / 8) (by omega) (by omega), wrap64_id (x := n * _) (by omega) (by omega), wrap64_id (by omega) (by omega)]; omega)

theorem okZ_eq (w m s k : Int) : okZ w m s k = fitsB w k m s := by
  unfold okZ mayB wordsB fitsB ofB mayB
  rw [right_eq]
  by_cases h : 1 ≤ k ∧ k ≤ 65534 ∧ 1 ≤ m ∧ m ≤ 65534 ∧ pwZ s = s
  · have ha := all_eq (n := k) (m := m) (s := s) ⟨h.1, h.2.1⟩ ⟨h.2.2.1, h.2.2.2.1⟩ h.2.2.2.2
    rw [ha]
    simp only [h, and_self, decide_true, cond_true, true_and]
    by_cases h2 : endZ k m s ≤ 4194304
    · have c1 : ilt 4194304 (endZ k m s) = false := ilt_false.2 h2
      rw [c1]
      simp only [Bool.not_false, cond_true, Bool.true_and, h2, decide_true]
      by_cases h3 : endZ k m s ≤ w
      · rw [ilt_false.2 h3]; simp [h3]
      · rw [ilt_iff.2 (by omega)]; simp [h3]
    · have c1 : ilt 4194304 (endZ k m s) = true := ilt_iff.2 (by omega)
      rw [c1]
      simp [h2]
  · have h' : ¬ (1 ≤ k ∧ k ≤ 65534 ∧ 1 ≤ m ∧ m ≤ 65534 ∧ pwZ s = s ∧ endZ k m s ≤ 4194304) := fun e => h ⟨e.1, e.2.1, e.2.2.1, e.2.2.2.1, e.2.2.2.2.1⟩
    rw [decide_eq_false h, decide_eq_false h']
    simp

/-- What fits fits with one block. -/
theorem fits_one {w k m s : Int} (h : fitsB w k m s = true) : fitsB w 1 m s = true := by
  unfold fitsB ofB at *
  simp only [Bool.and_eq_true, decide_eq_true_eq] at h ⊢
  obtain ⟨⟨h1, h2, h3, h4, h5, h6⟩, h7⟩ := h
  have hs2 : s = 64 ∨ s = 128 ∨ s = 256 ∨ s = 512 ∨ s = 1024 ∨ s = 2048 ∨ s = 4096 := by unfold pwZ at h5; repeat' split at h5 <;> omega
  have hle : endZ 1 m s ≤ endZ k m s := by
    unfold endZ blks bmap upZ
    rcases hs2 with rfl | rfl | rfl | rfl | rfl | rfl | rfl <;> omega
  exact ⟨⟨by omega, by omega, h3, h4, h5, by omega⟩, by omega⟩

section
variable {sm : Summ}
def growS (m s : Int) : Tab → Int → Value × Tab := fun K k => (.tuple #[.agg #[.int .i64 k, .int .i64 (sel (k != 0) m), .int .i64 (sel (k != 0) s)], .bool (k != 0)], K)
def fitsS : List Value → Tab → Unit → Value × Tab
  | [.int _ w, .int _ n, .int _ m, .int _ s], K, _ => (.bool (fitsB w n m s), K)
  | _, K, _ => (undef, K)

set_option maxRecDepth 100000 in
theorem vc_law (E : Env) (w m s : Int) (Qx : AX → Nat → List Value → St → Prop) (Rx : Value → St → Prop) : VC E (fun ex f S => Qx ex f.n (obs f []) S) Rx (nfun Tryz.prog kn psM 900 3 [.int .i64 w, .int .i64 m, .int .i64 s] []) (.bf (.bt (.bf (.call ((growS m s) []) fun a1 => (.bit (.new fun n2 => (.ix 0 (.ok (.bt (.bt (.call (((fitsS) [(.int .i64 (w)), (.int .i64 1), (.int .i64 (m)), (.int .i64 (s))]) [some ⟨(n2), (.row .cls 24 [(.int .i64 (a1)), (.int .i64 (sel (a1 != 0) m)), (.int .i64 (sel (a1 != 0) s))]), true⟩]) fun a3 => (.bit (.ok (.bf (.bt (.bf (.ix 0 (.ok (.bit (.bt (.ix 0 (.ok (.bit (.bt (.bt (.ix 0 (.ok (.call (((fitsS) [(.int .i64 (w)), (.int .i64 (a1)), (.int .i64 (m)), (.int .i64 (s))]) [some ⟨(n2), (.row .cls 24 [(.int .i64 (a1)), (.int .i64 (sel (a1 != 0) m)), (.int .i64 (sel (a1 != 0) s))]), true⟩]) fun a4 => (.bit (.bt (.bt (.ix 0 (.ok (.call (((fitsS) [(.int .i64 (w)), (.int .i64 (IntKind.wrap .i64 ((a1) + 1))), (.int .i64 (m)), (.int .i64 (s))]) [some ⟨(n2), (.row .cls 24 [(.int .i64 (a1)), (.int .i64 (sel (a1 != 0) m)), (.int .i64 (sel (a1 != 0) s))]), true⟩]) fun a5 => (.bit (.bf (.bf (.bf .nil))) (.bt (.bt (.bt .nil))))))))) (.bf (.bf (.bf (.bf .nil)))))))))) (.bf (.bf (.bf (.bf (.bf (.bf .nil)))))))))) (.bf (.bf (.bf (.bf (.bf (.bf (.bf .nil)))))))))))))) (.ok (.bt (.bf .nil)))))))))) (.new fun n2 => (.ix 0 (.ok (.bf (.bf (.call (((fitsS) [(.int .i64 (w)), (.int .i64 1), (.int .i64 (m)), (.int .i64 (s))]) [some ⟨(n2), (.row .cls 24 [(.int .i64 (a1)), (.int .i64 (sel (a1 != 0) m)), (.int .i64 (sel (a1 != 0) s))]), true⟩]) fun a3 => (.bit (.ok (.bt (.bf .nil))) (.ok (.bf (.bf (.bt (.ix 0 (.ok (.bit (.bt .nil) (.bf .nil)))))))))))))))))))) =
    ((E.vcall [] 5 [(.int .i64 (w)), (.int .i64 (m)), (.int .i64 (s))] ((growS m s) []) fun a1 => ((((a1) != 0) = true → (∀ n2 : Nat, (n2 = n2 ∧ (E.vcall [some ⟨(n2), (.row .cls 24 [(.int .i64 (a1)), (.int .i64 (sel (a1 != 0) m)), (.int .i64 (sel (a1 != 0) s))]), true⟩] 6 [(.int .i64 (w)), (.int .i64 1), (.int .i64 (m)), (.int .i64 (s))] (((fitsS) [(.int .i64 (w)), (.int .i64 1), (.int .i64 (m)), (.int .i64 (s))]) [some ⟨(n2), (.row .cls 24 [(.int .i64 (a1)), (.int .i64 (sel (a1 != 0) m)), (.int .i64 (sel (a1 != 0) s))]), true⟩]) fun a3 => (((fitsB w 1 m s) = true → (n2 = n2 ∧ ((((sel (a1 != 0) m) == (m)) = true → (n2 = n2 ∧ ((((sel (a1 != 0) s) == (s)) = true → (n2 = n2 ∧ (E.vcall [some ⟨(n2), (.row .cls 24 [(.int .i64 (a1)), (.int .i64 (sel (a1 != 0) m)), (.int .i64 (sel (a1 != 0) s))]), true⟩] 6 [(.int .i64 (w)), (.int .i64 (a1)), (.int .i64 (m)), (.int .i64 (s))] (((fitsS) [(.int .i64 (w)), (.int .i64 (a1)), (.int .i64 (m)), (.int .i64 (s))]) [some ⟨(n2), (.row .cls 24 [(.int .i64 (a1)), (.int .i64 (sel (a1 != 0) m)), (.int .i64 (sel (a1 != 0) s))]), true⟩]) fun a4 => (((fitsB w a1 m s) = true → (n2 = n2 ∧ (E.vcall [some ⟨(n2), (.row .cls 24 [(.int .i64 (a1)), (.int .i64 (sel (a1 != 0) m)), (.int .i64 (sel (a1 != 0) s))]), true⟩] 6 [(.int .i64 (w)), (.int .i64 (IntKind.wrap .i64 ((a1) + 1))), (.int .i64 (m)), (.int .i64 (s))] (((fitsS) [(.int .i64 (w)), (.int .i64 (IntKind.wrap .i64 ((a1) + 1))), (.int .i64 (m)), (.int .i64 (s))]) [some ⟨(n2), (.row .cls 24 [(.int .i64 (a1)), (.int .i64 (sel (a1 != 0) m)), (.int .i64 (sel (a1 != 0) s))]), true⟩]) fun a5 => (((fitsB w (IntKind.i64.wrap (a1 + 1)) m s) = true → (E.forS [some ⟨(n2), (.row .cls 24 [(.int .i64 (a1)), (.int .i64 (sel (a1 != 0) m)), (.int .i64 (sel (a1 != 0) s))]), true⟩] fun S => Rx (.bool false) S)) ∧ ((fitsB w (IntKind.i64.wrap (a1 + 1)) m s) = false → (E.forS [some ⟨(n2), (.row .cls 24 [(.int .i64 (a1)), (.int .i64 (sel (a1 != 0) m)), (.int .i64 (sel (a1 != 0) s))]), true⟩] fun S => Rx (.bool true) S)))))) ∧ ((fitsB w a1 m s) = false → (E.forS [some ⟨(n2), (.row .cls 24 [(.int .i64 (a1)), (.int .i64 (sel (a1 != 0) m)), (.int .i64 (sel (a1 != 0) s))]), true⟩] fun S => Rx (.bool false) S)))))) ∧ (((sel (a1 != 0) s) == (s)) = false → (E.forS [some ⟨(n2), (.row .cls 24 [(.int .i64 (a1)), (.int .i64 (sel (a1 != 0) m)), (.int .i64 (sel (a1 != 0) s))]), true⟩] fun S => Rx (.bool false) S))))) ∧ (((sel (a1 != 0) m) == (m)) = false → (E.forS [some ⟨(n2), (.row .cls 24 [(.int .i64 (a1)), (.int .i64 (sel (a1 != 0) m)), (.int .i64 (sel (a1 != 0) s))]), true⟩] fun S => Rx (.bool false) S))))) ∧ ((fitsB w 1 m s) = false → (E.forS [some ⟨(n2), (.row .cls 24 [(.int .i64 (a1)), (.int .i64 (sel (a1 != 0) m)), (.int .i64 (sel (a1 != 0) s))]), true⟩] fun S => Rx (.bool false) S))))))) ∧ (((a1) != 0) = false → (∀ n2 : Nat, (n2 = n2 ∧ (E.vcall [some ⟨(n2), (.row .cls 24 [(.int .i64 (a1)), (.int .i64 (sel (a1 != 0) m)), (.int .i64 (sel (a1 != 0) s))]), true⟩] 6 [(.int .i64 (w)), (.int .i64 1), (.int .i64 (m)), (.int .i64 (s))] (((fitsS) [(.int .i64 (w)), (.int .i64 1), (.int .i64 (m)), (.int .i64 (s))]) [some ⟨(n2), (.row .cls 24 [(.int .i64 (a1)), (.int .i64 (sel (a1 != 0) m)), (.int .i64 (sel (a1 != 0) s))]), true⟩]) fun a3 => (((fitsB w 1 m s) = true → (E.forS [some ⟨(n2), (.row .cls 24 [(.int .i64 (a1)), (.int .i64 (sel (a1 != 0) m)), (.int .i64 (sel (a1 != 0) s))]), true⟩] fun S => Rx (.bool false) S)) ∧ ((fitsB w 1 m s) = false → (n2 = n2 ∧ (((((a1) == 0) && (((sel (a1 != 0) m) == 0) && ((sel (a1 != 0) s) == 0))) = true → (E.forS [some ⟨(n2), (.row .cls 24 [(.int .i64 (a1)), (.int .i64 (sel (a1 != 0) m)), (.int .i64 (sel (a1 != 0) s))]), true⟩] fun S => Rx (.bool true) S)) ∧ ((((a1) == 0) && (((sel (a1 != 0) m) == 0) && ((sel (a1 != 0) s) == 0))) = false → (E.forS [some ⟨(n2), (.row .cls 24 [(.int .i64 (a1)), (.int .i64 (sel (a1 != 0) m)), (.int .i64 (sel (a1 != 0) s))]), true⟩] fun S => Rx (.bool false) S))))))))))))) := by kernel_rfl

theorem law_ok (h : SmM sm) (hl : sm 3 = none) (w m s : Int) : Pure sm 3 [.int .i64 w, .int .i64 m, .int .i64 s] (.bool true) := by
  intro ro S0 hK
  have fin : ∀ {K : Tab}, (En sm ro [] S0).forS K fun S => (Value.bool true) = .bool true ∧ Keep S0 S ∧ TOK ro [] S := fun S k1 k2 => ⟨rfl, k2.keep0, k1.none⟩
  have hrun := nfun_use (E := En sm ro [] S0) (n := 900) (vc_law (En sm ro [] S0) w m s (fun _ _ _ _ => True) (fun v S => v = .bool true ∧ Keep S0 S ∧ TOK ro [] S)) rfl (h.ok ro [] S0) hl hK ?_
  · obtain ⟨v, S', h1, rfl, h2, h3⟩ := hrun
    exact ⟨S', h1, h2, h3⟩
  intro S1 k1 k2
  obtain ⟨k, S2, ⟨j0, _, j2, j3, j4⟩, g1, g2, g3⟩ := grow_ok h w m s ro S1 k1.none
  rw [okZ_eq] at j3 j4
  refine ⟨k, S2, g1, k1.keep g2 g3, .same g2, fun c => ?_, fun c => ?_⟩
  · have hk : k ≠ 0 := by simpa using c
    have hf : fitsB w k m s = true := by rcases j3 with h | h; exact absurd h hk; exact h
    have h1 := fits_one hf
    have hw : IntKind.wrap .i64 (k + 1) = k + 1 := wrap64_id (by omega) (by omega)
    have hn : fitsB w (IntKind.wrap .i64 (k + 1)) m s = false := by
      rw [hw]
      rcases j4 with h | h
      · subst h; simp [fitsB, ofB]
      · exact h
    intro n2
    refine ⟨rfl, fun S3 k3 k4 => Env.callSame k3 (fits_ok h w 1 m s ro S3 k3.none) ⟨fun c1 => ⟨rfl, ⟨fun c2 => ⟨rfl, ⟨fun c3 => ⟨rfl, fun S4 k5 k6 => Env.callSame k5 (fits_ok h w k m s ro S4 k5.none) ⟨fun c4 => ⟨rfl, fun S5 k7 k8 => Env.callSame k7 (fits_ok h w _ m s ro S5 k7.none) ⟨fun c5 => ?_, fun c5 => fin⟩⟩, fun c4 => ?_⟩⟩, fun c3 => ?_⟩⟩, fun c2 => ?_⟩⟩, fun c1 => ?_⟩⟩
    · rw [hn] at c5; cases c5
    · rw [hf] at c4; cases c4
    · rw [c] at c3; simp [sel] at c3
    · rw [c] at c2; simp [sel] at c2
    · rw [h1] at c1; cases c1
  · have hk : k = 0 := by simpa using c
    have h1 : fitsB w 1 m s = false := by
      rcases j4 with h | h
      · omega
      · rw [hk] at h; exact h
    intro n2
    refine ⟨rfl, fun S3 k3 k4 => Env.callSame k3 (fits_ok h w 1 m s ro S3 k3.none) ⟨fun c1 => ?_, fun c1 => ⟨rfl, ⟨fun c2 => fin, fun c2 => ?_⟩⟩⟩⟩
    · rw [h1] at c1; cases c1
    · rw [c, hk] at c2; simp [sel] at c2

end
end Go.Proofs.YtccpckiiademmaaGreatDoor

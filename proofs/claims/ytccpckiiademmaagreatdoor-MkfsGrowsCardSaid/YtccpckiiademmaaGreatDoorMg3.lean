/-
  MkfsGrows: Grow; the geometry is the document's.
-/
import Derived.Test.YtccpckiiademmaaGreatDoorMg2
set_option linter.unusedSimpArgs false
set_option linter.unusedVariables false
namespace Go.Proofs.YtccpckiiademmaaGreatDoor
open Go Go.Ab Go.Proofs

section
variable {sm : Summ}

/-- Has a device of w words room for k blocks? -/
def okZ (w m s k : Int) : Bool := mayB k m s && !(ilt w (wordsB k m s))
def midZ (a b : Int) : Int := IntKind.wrap .i64 (Int.tdiv (IntKind.wrap .i64 (IntKind.wrap .i64 (a + b) + 1)) 2)

set_option maxRecDepth 100000 in
theorem vc_growL (E : Env) (w m s a b : Int) (q : Nat) (g : Nat → Value) (Qx : AX → Nat → List Value → St → Prop) (Rx : Value → St → Prop) : VC E (fun ex f S => Qx ex f.n (obs f [0, 1, 2, 6, 7, 8, 9]) S) Rx (nrun Tryz.prog kn psM 900 growC (mkF 42 [(0, .int .i64 w), (1, .int .i64 m), (2, .int .i64 s), (6, .pointer (some ⟨q, 0, none⟩)), (7, .bool false), (8, .int .i64 a), (9, .int .i64 b)] g) [] .done) (.bit (.new fun n1 => (.ix 0 (.ok (.ix 0 (.ok (.bit (.bt (.ix 0 (.ok (.bit (.bt .nil) (.bf .nil))))) (.bf (.bf .nil)))))))) .nil) =
    ((((ilt (a) (b)) = true → ((2 : Int) ≠ (0 : Int) ∧ (∀ n1 : Nat, (n1 = n1 ∧ (n1 = n1 ∧ (((mayB (IntKind.i64.wrap ((IntKind.i64.wrap (IntKind.i64.wrap (a + b) + 1)).tdiv 2)) m s) = true → (n1 = n1 ∧ (((!(ilt (w) (wordsB (IntKind.i64.wrap ((IntKind.i64.wrap (IntKind.i64.wrap (a + b) + 1)).tdiv 2)) m s))) = true → (E.forS [some ⟨(n1), (.row .cls 24 [(.int .i64 (IntKind.wrap .i64 (Int.tdiv (IntKind.wrap .i64 ((IntKind.wrap .i64 ((a) + (b))) + 1)) 2))), (.int .i64 (m)), (.int .i64 (s))]), true⟩] fun S => Qx .normal 42 [(.int .i64 (w)), (.int .i64 (m)), (.int .i64 (s)), (.pointer (some ⟨(q), 0, none⟩)), (.bool false), (.int .i64 (IntKind.wrap .i64 (Int.tdiv (IntKind.wrap .i64 ((IntKind.wrap .i64 ((a) + (b))) + 1)) 2))), (.int .i64 (b))] S)) ∧ ((!(ilt (w) (wordsB (IntKind.i64.wrap ((IntKind.i64.wrap (IntKind.i64.wrap (a + b) + 1)).tdiv 2)) m s))) = false → (E.forS [some ⟨(n1), (.row .cls 24 [(.int .i64 (IntKind.wrap .i64 (Int.tdiv (IntKind.wrap .i64 ((IntKind.wrap .i64 ((a) + (b))) + 1)) 2))), (.int .i64 (m)), (.int .i64 (s))]), true⟩] fun S => Qx .normal 42 [(.int .i64 (w)), (.int .i64 (m)), (.int .i64 (s)), (.pointer (some ⟨(q), 0, none⟩)), (.bool false), (.int .i64 (a)), (.int .i64 (IntKind.wrap .i64 ((IntKind.wrap .i64 (Int.tdiv (IntKind.wrap .i64 ((IntKind.wrap .i64 ((a) + (b))) + 1)) 2)) - 1)))] S))))) ∧ ((mayB (IntKind.i64.wrap ((IntKind.i64.wrap (IntKind.i64.wrap (a + b) + 1)).tdiv 2)) m s) = false → (E.forS [some ⟨(n1), (.row .cls 24 [(.int .i64 (IntKind.wrap .i64 (Int.tdiv (IntKind.wrap .i64 ((IntKind.wrap .i64 ((a) + (b))) + 1)) 2))), (.int .i64 (m)), (.int .i64 (s))]), true⟩] fun S => Qx .normal 42 [(.int .i64 (w)), (.int .i64 (m)), (.int .i64 (s)), (.pointer (some ⟨(q), 0, none⟩)), (.bool false), (.int .i64 (a)), (.int .i64 (IntKind.wrap .i64 ((IntKind.wrap .i64 (Int.tdiv (IntKind.wrap .i64 ((IntKind.wrap .i64 ((a) + (b))) + 1)) 2)) - 1)))] S)))))))) ∧ ((ilt (a) (b)) = false → (E.forS [] fun S => Qx (.exit 0) 42 [(.int .i64 (w)), (.int .i64 (m)), (.int .i64 (s)), (.pointer (some ⟨(q), 0, none⟩)), (.bool false), (.int .i64 (a)), (.int .i64 (b))] S)))) := by kernel_rfl

noncomputable def growL (w m s : Int) : LH (Int × Int × (Nat → Value)) := ⟨growC, [0, 1, 2, 6, 7, 8, 9], fun K x => (.exit 0, mkF 42 [(0, .int .i64 w), (1, .int .i64 m), (2, .int .i64 s), (6, .pointer (some ⟨nmAt K 0, 0, none⟩)), (7, .bool false), (8, .int .i64 x.1), (9, .int .i64 x.2.1)] x.2.2, K)⟩

set_option maxRecDepth 100000 in
theorem vc_grow (E : Env) (w m s : Int) (Qx : AX → Nat → List Value → St → Prop) (Rx : Value → St → Prop) : VC E (fun ex f S => Qx ex f.n (obs f []) S) Rx (nfun Tryz.prog kn psM 900 5 [.int .i64 w, .int .i64 m, .int .i64 s] []) (.new fun n1 => (.bf (.loop (growL w m s).sl ((growL w m s).shape [some ⟨(n1), (.row .cls 24 [(.int .i64 0), (.int .i64 0), (.int .i64 0)]), true⟩]) fun a2 => (.bit (.ix 0 (.ok (.bf (.ix 0 (.ok .nil))))) (.ix 0 (.ok (.bt (.ix 0 (.ok .nil))))))))) =
    ((∀ n1 : Nat, (E.vloop [some ⟨(n1), (.row .cls 24 [(.int .i64 0), (.int .i64 0), (.int .i64 0)]), true⟩] 42 [(.int .i64 (w)), (.int .i64 (m)), (.int .i64 (s)), (.pointer (some ⟨(n1), 0, none⟩)), (.bool false), (.int .i64 0), (.int .i64 65534)] (growL w m s).sl (growL w m s).body ((growL w m s).shape [some ⟨(n1), (.row .cls 24 [(.int .i64 0), (.int .i64 0), (.int .i64 0)]), true⟩]) fun a2 => ((((a2.fst) == 0) = true → (n1 = nmAt [some (Ent.mk n1 (Blk.row Fl.cls (24 : Nat) (Value.agg #[Value.int IntKind.i64 (0 : Int), Value.int IntKind.i64 (0 : Int), Value.int IntKind.i64 (0 : Int)]).cells.toList) true)] (0 : Nat) ∧ (n1 = nmAt [some (Ent.mk n1 (Blk.row Fl.cls (24 : Nat) (Value.agg #[Value.int IntKind.i64 (0 : Int), Value.int IntKind.i64 (0 : Int), Value.int IntKind.i64 (0 : Int)]).cells.toList) true)] (0 : Nat) ∧ (E.forS [some ⟨(n1), (.row .cls 24 [(.int .i64 0), (.int .i64 0), (.int .i64 0)]), true⟩] fun S => Rx (.tuple #[(.agg #[(.int .i64 0), (.int .i64 0), (.int .i64 0)]), (.bool false)]) S)))) ∧ (((a2.fst) == 0) = false → (n1 = nmAt [some (Ent.mk n1 (Blk.row Fl.cls (24 : Nat) (Value.agg #[Value.int IntKind.i64 (0 : Int), Value.int IntKind.i64 (0 : Int), Value.int IntKind.i64 (0 : Int)]).cells.toList) true)] (0 : Nat) ∧ (n1 = nmAt [some (Ent.mk n1 (Blk.row Fl.cls (24 : Nat) (Value.agg #[Value.int IntKind.i64 (0 : Int), Value.int IntKind.i64 (0 : Int), Value.int IntKind.i64 (0 : Int)]).cells.toList) true)] (0 : Nat) ∧ (E.forS [some ⟨(n1), (.row .cls 24 [(.int .i64 (a2.fst)), (.int .i64 (m)), (.int .i64 (s))]), true⟩] fun S => Rx (.tuple #[(.agg #[(.int .i64 (a2.fst)), (.int .i64 (m)), (.int .i64 (s))]), (.bool true)]) S)))))))) := by kernel_rfl

theorem obs7 {f : Fr} {a b c d e g i : Nat} {v1 v2 v3 v4 v5 v6 v7 : Value} (h : obs f [a, b, c, d, e, g, i] = [v1, v2, v3, v4, v5, v6, v7]) : f.g a = v1 ∧ f.g b = v2 ∧ f.g c = v3 ∧ f.g d = v4 ∧ f.g e = v5 ∧ f.g g = v6 ∧ f.g i = v7 := by simpa [obs] using h

/-- The least and the most that are left. -/
def GInv (w m s a b : Int) : Prop := 0 ≤ a ∧ a ≤ b ∧ b ≤ 65534 ∧ (a = 0 ∨ okZ w m s a = true) ∧ (b = 65534 ∨ okZ w m s (b + 1) = false)

theorem midZ_eq {a b : Int} (ha : 0 ≤ a) (hab : a < b) (hb : b ≤ 65534) : midZ a b = (a + b + 1) / 2 := by
  unfold midZ
  rw [wrap64_id (x := a + b) (by omega) (by omega), wrap64_id (x := a + b + 1) (by omega) (by omega), Int.tdiv_eq_ediv_of_nonneg (by omega), wrap64_id (by omega) (by omega)]

theorem growLoop (h : SmM sm) {ro q : Nat} {w m s : Int} {f : Fr} {S : St} (hK : TOK ro [] S) (hn : f.n = 42) (ho : obs f [0, 1, 2, 6, 7, 8, 9] = [.int .i64 w, .int .i64 m, .int .i64 s, .pointer (some ⟨q, 0, none⟩), .bool false, .int .i64 0, .int .i64 65534]) :
    ∃ (k : Int) (g : Nat → Value) (S' : St), GInv w m s k k ∧ RLoop Tryz.prog kn sm ro growC f S (.exit 0) (mkF 42 [(0, .int .i64 w), (1, .int .i64 m), (2, .int .i64 s), (6, .pointer (some ⟨q, 0, none⟩)), (7, .bool false), (8, .int .i64 k), (9, .int .i64 k)] g) S' ∧ Keep S S' ∧ TOK ro [] S' := by
  obtain ⟨ex, f', S', h1, rfl, h2, h3, k, h4, h5⟩ := nloop (P := Tryz.prog) (kn := kn) (summ := sm) (ro := ro) (b := growC) (α := Int × Int) (fun x f S1 => TOK ro [] S1 ∧ Keep S S1 ∧ f = mkF 42 [(0, .int .i64 w), (1, .int .i64 m), (2, .int .i64 s), (6, .pointer (some ⟨q, 0, none⟩)), (7, .bool false), (8, .int .i64 x.1), (9, .int .i64 x.2)] f.g ∧ GInv w m s x.1 x.2) (fun x => (x.2 - x.1).toNat)
    (fun ex f S1 => ex = .exit 0 ∧ TOK ro [] S1 ∧ Keep S S1 ∧ ∃ k, GInv w m s k k ∧ f = mkF 42 [(0, .int .i64 w), (1, .int .i64 m), (2, .int .i64 s), (6, .pointer (some ⟨q, 0, none⟩)), (7, .bool false), (8, .int .i64 k), (9, .int .i64 k)] f.g) (fun x f S1 hI => by
      obtain ⟨a, b⟩ := x
      obtain ⟨i1, i2, i3, j0, j1, j2, j3, j4⟩ := hI
      simp only at i3 j0 j1 j2 j3 j4
      have hrun := ncode_use (E := En sm ro [] S1) (n := 900) (vc_growL (En sm ro [] S1) w m s a b q f.g (fun ex k vs S' => TOK ro [] S' ∧ Keep S1 S' ∧ k = 42 ∧ ((ex = .normal ∧ a < b ∧ okZ w m s (midZ a b) = true ∧ vs = [.int .i64 w, .int .i64 m, .int .i64 s, .pointer (some ⟨q, 0, none⟩), .bool false, .int .i64 (midZ a b), .int .i64 b]) ∨ (ex = .normal ∧ a < b ∧ okZ w m s (midZ a b) = false ∧ vs = [.int .i64 w, .int .i64 m, .int .i64 s, .pointer (some ⟨q, 0, none⟩), .bool false, .int .i64 a, .int .i64 (IntKind.wrap .i64 (midZ a b - 1))]) ∨ (ex = .exit 0 ∧ b ≤ a ∧ vs = [.int .i64 w, .int .i64 m, .int .i64 s, .pointer (some ⟨q, 0, none⟩), .bool false, .int .i64 a, .int .i64 b]))) (fun _ _ => True)) rfl (h.ok ro [] S1) i1
        ⟨fun hb => ⟨by decide, fun n1 => ⟨rfl, rfl, fun c1 => ⟨rfl, fun c2 S' k1 k2 => ⟨k1.none, k2.keep0, rfl, .inl ⟨rfl, ilt_iff.1 hb, by unfold okZ midZ; rw [c1, c2]; rfl, rfl⟩⟩, fun c2 S' k1 k2 => ⟨k1.none, k2.keep0, rfl, .inr (.inl ⟨rfl, ilt_iff.1 hb, by unfold okZ midZ; rw [c2, Bool.and_false], rfl⟩)⟩⟩, fun c1 S' k1 k2 => ⟨k1.none, k2.keep0, rfl, .inr (.inl ⟨rfl, ilt_iff.1 hb, by unfold okZ midZ; rw [c1, Bool.false_and], rfl⟩)⟩⟩⟩, fun hb S' k1 k2 => ⟨k1, k2.keep0, rfl, .inr (.inr ⟨rfl, ilt_false.1 hb, rfl⟩)⟩⟩
      obtain ⟨ex, f', S', h1, h3, h4, h5, h6⟩ := hrun
      rw [← i3] at h1
      refine ⟨ex, f', S', h1, ?_⟩
      rcases h6 with ⟨rfl, h7, h8, h9⟩ | ⟨rfl, h7, h8, h9⟩ | ⟨rfl, h7, h9⟩
      · obtain ⟨a1, a2, a3, a4, a5, a6, a7⟩ := obs7 h9
        have hm := midZ_eq j0 h7 j2
        rw [hm] at h8 a6
        exact .inl ⟨rfl, ((a + b + 1) / 2, b), ⟨h3, i2.trans h4, mkF_of h5 (by simp [a1, a2, a3, a4, a5, a6, a7]), by simp only; omega, by simp only; omega, j2, .inr h8, j4⟩, by simp only; omega⟩
      · obtain ⟨a1, a2, a3, a4, a5, a6, a7⟩ := obs7 h9
        have hm := midZ_eq j0 h7 j2
        rw [hm, wrap64_id (by omega) (by omega)] at a7
        rw [hm] at h8
        exact .inl ⟨rfl, (a, (a + b + 1) / 2 - 1), ⟨h3, i2.trans h4, mkF_of h5 (by simp [a1, a2, a3, a4, a5, a6, a7]), j0, by simp only; omega, by simp only; omega, j3, .inr (by simp only; rw [show (a + b + 1) / 2 - 1 + 1 = (a + b + 1) / 2 by omega]; exact h8)⟩, by simp only; omega⟩
      · obtain ⟨a1, a2, a3, a4, a5, a6, a7⟩ := obs7 h9
        obtain rfl : a = b := by omega
        exact .inr ⟨by simp, rfl, h3, i2.trans h4, a, ⟨j0, j1, j2, j3, j4⟩, mkF_of h5 (by simp [a1, a2, a3, a4, a5, a6, a7])⟩) (a := (0, 65534)) (f := f) (S := S) ⟨hK, Keep.refl _, by
          obtain ⟨a1, a2, a3, a4, a5, a6, a7⟩ := obs7 ho
          exact mkF_of hn (by simp [a1, a2, a3, a4, a5, a6, a7]), by simp only; omega, by simp only; omega, by simp only; omega, .inl rfl, .inl rfl⟩ (by simp)
  exact ⟨k, f'.g, S', h4, by rw [← h5]; exact h1, h3, h2⟩

def growV (k m s : Int) : Value := .tuple #[.agg #[.int .i64 k, .int .i64 (sel (k != 0) m), .int .i64 (sel (k != 0) s)], .bool (k != 0)]

theorem grow_ok (h : SmM sm) (w m s : Int) : ∀ ro S0, TOK ro [] S0 → ∃ (k : Int) (S' : St), GInv w m s k k ∧ RCall Tryz.prog kn sm ro 5 [.int .i64 w, .int .i64 m, .int .i64 s] S0 (growV k m s) S' ∧ Keep S0 S' ∧ TOK ro [] S' := by
  intro ro S0 hK
  have hrun := nfun_use (E := En sm ro [] S0) (n := 900) (vc_grow (En sm ro [] S0) w m s (fun _ _ _ _ => True) (fun v S => ∃ k, GInv w m s k k ∧ v = growV k m s ∧ Keep S0 S ∧ TOK ro [] S)) rfl (h.ok ro [] S0) h.grow hK ?_
  · obtain ⟨v, S', h1, k, h2, rfl, h3, h4⟩ := hrun
    exact ⟨k, S', h2, h1, h3, h4⟩
  intro n1 S2 f2 k1 k2 hn ho
  obtain ⟨k, g, S3, hg, l1, l2, l3⟩ := growLoop h k1.none hn ho
  refine ⟨(k, k, g), S3, l1, k1.keep l2 l3, .same l2, by simp [growL], fun c => ⟨rfl, rfl, fun S4 k3 k4 => ⟨k, hg, ?_, k4.keep0, k3.none⟩⟩, fun c => ⟨rfl, rfl, fun S4 k3 k4 => ⟨k, hg, ?_, k4.keep0, k3.none⟩⟩⟩
  · have : k = 0 := by simpa using c
    subst this; rfl
  · have hk : (k != 0) = true := by simp only [bne, c]; rfl
    unfold growV
    rw [hk]; rfl

end
end Go.Proofs.YtccpckiiademmaaGreatDoor

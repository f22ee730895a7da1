/-
  MkfsGrows: the document's geometry: fill, Of, Fits; and Grow.
-/
import Derived.Test.YtccpckiiademmaaGreatDoorGe1
import Derived.Test.YtccpckiiademmaaGreatDoorNr9
import Derived.Test.YtccpckiiademmaaGreatDoorKb3
set_option linter.unusedSimpArgs false
set_option linter.unusedVariables false
namespace Go.Proofs.YtccpckiiademmaaGreatDoor
open Go Go.Ab Go.Proofs

noncomputable def fillC : Code := (Tryz.f26.body.bind loopOf).getD .skip
noncomputable def ofC : Code := (Tryz.f14.body.bind loopOf).getD .skip
noncomputable def growC : Code := (Tryz.f5.body.bind loopOf).getD .skip

/-- An example of a layer. -/
def pT : List Value → Option Value
  | [] => some (.bool true)
  | _ => none
noncomputable def psM : FuncId → Option (List Value → Option Value) := addP 4 pT <| addP 13 (fGeo fun n m s => .int .i64 (wordsB n m s)) (addP 12 (fGeo fun n m s => .bool (mayB n m s)) fun _ => none)

def upZ (x : Int) : Int := (x + 7) / 8 * 8
noncomputable def fillL (X : Int) : LH (Nat → Value) := ⟨fillC, [0], fun K g => (.exit 0, mkF 9 [(0, .int .i64 (upZ X))] g, K)⟩

def pwZ (s : Int) : Int := if s ≤ 64 then 64 else if s ≤ 128 then 128 else if s ≤ 256 then 256 else if s ≤ 512 then 512 else if s ≤ 1024 then 1024 else if s ≤ 2048 then 2048 else 4096
noncomputable def ofL (s : Int) (n m : Int) : LH (Nat → Value) := ⟨ofC, [0, 1, 2, 6, 7, 8], fun K g => (.exit 0, mkF 72 [(0, .int .i64 n), (1, .int .i64 m), (2, .int .i64 s), (6, (.pointer (some ⟨nmAt K 0, 0, none⟩))), (7, .bool false), (8, .int .i64 (pwZ s))] g, K)⟩
def intS (x : Int) : Tab → Unit → Value × Tab := fun K _ => (.int .i64 x, K)
def slots (n m : Int) : Int := 16 + 8 * m
def bmap (n m : Int) : Int := upZ (16 + 8 * m + n)
def blks (n m : Int) : Int := upZ (bmap n m + (n + 63) / 64)
def endZ (n m s : Int) : Int := blks n m + n * s / 8
def sel (b : Bool) (x : Int) : Int := bif b then x else 0
def ofB (n m s : Int) : Bool := decide (1 ≤ n ∧ n ≤ 65534 ∧ 1 ≤ m ∧ m ≤ 65534 ∧ pwZ s = s ∧ endZ n m s ≤ 4194304)
def ofW (b : Bool) (n m s : Int) : Value := .tuple #[.agg #[.int .i64 (sel b 16), .int .i64 (sel b (slots n m)), .int .i64 (sel b (bmap n m)), .int .i64 (sel b (blks n m)), .int .i64 (sel b (endZ n m s))], .bool b]
def ofV (n m s : Int) : Value := ofW (ofB n m s) n m s
def fitsB (w n m s : Int) : Bool := ofB n m s && decide (endZ n m s ≤ w)

section
variable (sm : Summ)
noncomputable def En (sm : Summ) (ro : Nat) (K : Tab) (S : St) : Env := ⟨Tryz.prog, kn, sm, psM, ro, K, S⟩

set_option maxRecDepth 100000 in
theorem vc_fillL (E : Env) (x : Int) (g : Nat → Value) (Qx : AX → Nat → List Value → St → Prop) (Rx : Value → St → Prop) : VC E (fun ex f S => Qx ex f.n (obs f [0]) S) Rx (nrun Tryz.prog kn psM 900 fillC (mkF 9 [(0, .int .i64 x)] g) [] .done) (.bit .nil .nil) =
    (((8 : Int) ≠ (0 : Int) ∧ ((((Int.tmod (x) 8) != 0) = true → (E.forS [] fun S => Qx .normal 9 [(.int .i64 (IntKind.wrap .i64 ((x) + 1)))] S)) ∧ (((Int.tmod (x) 8) != 0) = false → (E.forS [] fun S => Qx (.exit 0) 9 [(.int .i64 (x))] S))))) := by kernel_rfl

set_option maxRecDepth 100000 in
theorem vc_fill (E : Env) (x : Int) (Qx : AX → Nat → List Value → St → Prop) (Rx : Value → St → Prop) : VC E (fun ex f S => Qx ex f.n (obs f []) S) Rx (nfun Tryz.prog kn psM 900 26 [.int .i64 x] []) (.loop (fillL x).sl ((fillL x).shape []) fun a1 => .nil) =
    ((E.vloop [] 9 [(.int .i64 (x))] (fillL x).sl (fillL x).body ((fillL x).shape []) fun a1 => (E.forS [] fun S => Rx (.int .i64 (upZ x)) S))) := by kernel_rfl

variable {sm : Summ}

/-- What is asked of the summaries. -/
structure SmM (sm : Summ) : Prop where
  ps : ∀ g p, psM g = some p → sm g = some (pureS p)
  fill : sm 26 = none
  of : sm 14 = none
  fits : sm 6 = none
  grow : sm 5 = none

theorem SmM.ok (h : SmM sm) (ro : Nat) (K : Tab) (S : St) : (En sm ro K S).OK := ⟨h.ps⟩

theorem obs1 {f : Fr} {i : Nat} {v : Value} (h : obs f [i] = [v]) : f.g i = v := by simpa [obs] using h
theorem obs2 {f : Fr} {i j : Nat} {v w : Value} (h : obs f [i, j] = [v, w]) : f.g i = v ∧ f.g j = w := by simpa [obs] using h

theorem wrap64_id {x : Int} (h0 : -9223372036854775808 ≤ x) (h1 : x < 9223372036854775808) : IntKind.wrap .i64 x = x := by
  unfold IntKind.wrap
  simp only [IntKind.signed, IntKind.bits]
  simp
  omega

theorem ilt_iff {a b : Int} : ilt a b = true ↔ a < b := by
  cases a <;> cases b <;> simp [ilt, blt_eq] <;> omega
theorem ilt_false {a b : Int} : ilt a b = false ↔ b ≤ a := by
  rw [← Bool.not_eq_true, ilt_iff]; omega

/-- A contract of what leaves memory alone. -/
def Pure (sm : Summ) (g : FuncId) (args : List Value) (v : Value) : Prop :=
  ∀ ro S0, TOK ro [] S0 → ∃ S', RCall Tryz.prog kn sm ro g args S0 v S' ∧ Keep S0 S' ∧ TOK ro [] S'

theorem fill_ok (h : SmM sm) {X : Int} (hX : 0 ≤ X ∧ X ≤ 1099511627776) : Pure sm 26 [.int .i64 X] (.int .i64 (upZ X)) := by
  intro ro S0 hK
  have hrun := nfun_use (E := En sm ro [] S0) (n := 900) (vc_fill (En sm ro [] S0) X (fun _ _ _ _ => True) (fun v S => v = .int .i64 (upZ X) ∧ Keep S0 S ∧ TOK ro [] S)) rfl (h.ok ro [] S0) h.fill hK ?_
  · obtain ⟨v, S', h1, rfl, h2, h3⟩ := hrun
    exact ⟨S', h1, h2, h3⟩
  intro S1 f1 hK1 hD1 hn ho
  obtain ⟨ex, f', S', h1, rfl, h2, h3, h4, h5⟩ := nloop (P := Tryz.prog) (kn := kn) (summ := sm) (ro := ro) (b := fillC) (α := Int) (fun a f S => TOK ro [] S ∧ Keep S1 S ∧ f.n = 9 ∧ f.g 0 = .int .i64 a ∧ 0 ≤ a ∧ a ≤ upZ X ∧ upZ a = upZ X) (fun a => (upZ X - a).toNat)
    (fun ex f S => ex = .exit 0 ∧ TOK ro [] S ∧ Keep S1 S ∧ f.n = 9 ∧ f.g 0 = .int .i64 (upZ X)) (fun a f S hI => by
      obtain ⟨i1, i2, i3, i4, i5, i6, i7⟩ := hI
      have ef := mkF_of (l := [(0, .int .i64 a)]) i3 (by simpa using i4)
      have hmod : a.tmod 8 = a % 8 := Int.tmod_eq_emod_of_nonneg i5
      have hrun := ncode_use (E := En sm ro [] S) (n := 900) (vc_fillL (En sm ro [] S) a f.g (fun ex n vs S' => TOK ro [] S' ∧ Keep S S' ∧ n = 9 ∧ ((ex = .normal ∧ a.tmod 8 ≠ 0 ∧ vs = [.int .i64 (IntKind.wrap .i64 (a + 1))]) ∨ (ex = .exit 0 ∧ a.tmod 8 = 0 ∧ vs = [.int .i64 a]))) (fun _ _ => True)) rfl (h.ok ro [] S) i1 ⟨by decide, fun hb S' k1 k2 => ⟨k1, k2.keep0, rfl, .inl ⟨rfl, by simpa using hb, rfl⟩⟩, fun hb S' k1 k2 => ⟨k1, k2.keep0, rfl, .inr ⟨rfl, by simpa using hb, rfl⟩⟩⟩
      obtain ⟨ex, f', S', h1, h3, h4, h5, h6⟩ := hrun
      rw [← ef] at h1
      refine ⟨ex, f', S', h1, ?_⟩
      rcases h6 with ⟨rfl, h7, h8⟩ | ⟨rfl, h7, h8⟩
      · have h8 := obs1 h8
        have hlt : a + 1 ≤ upZ X := by unfold upZ at *; omega
        rw [wrap64_id (by omega) (by unfold upZ at hlt; omega)] at h8
        exact .inl ⟨rfl, a + 1, ⟨h3, i2.trans h4, h5, h8, by omega, hlt, by unfold upZ at *; omega⟩, by omega⟩
      · have h8 := obs1 h8
        refine .inr ⟨by simp, rfl, h3, i2.trans h4, h5, ?_⟩
        rw [h8]
        congr 1
        unfold upZ at *; omega) (a := X) (f := f1) (S := S1) ⟨hK1, Keep.refl _, hn, obs1 ho, hX.1, by unfold upZ; omega, rfl⟩ (by unfold upZ; omega)
  refine ⟨f'.g, S', ?_, h2, .same h3, by simp [fillL], fun S2 k1 k2 => ⟨rfl, k2.keep0, k1⟩⟩
  have ef := mkF_of (l := [(0, .int .i64 (upZ X))]) h4 (by simpa using h5)
  show RLoop _ _ _ _ _ _ _ (.exit 0) (mkF 9 [(0, .int .i64 (upZ X))] f'.g) _
  rw [← ef]; exact h1

set_option maxRecDepth 100000 in
theorem vc_ofL (E : Env) (n m s p : Int) (q : Nat) (g : Nat → Value) (Qx : AX → Nat → List Value → St → Prop) (Rx : Value → St → Prop) : VC E (fun ex f S => Qx ex f.n (obs f [0, 1, 2, 6, 7, 8]) S) Rx (nrun Tryz.prog kn psM 900 ofC (mkF 72 [(0, .int .i64 n), (1, .int .i64 m), (2, .int .i64 s), (6, .pointer (some ⟨q, 0, none⟩)), (7, .bool false), (8, .int .i64 p)] g) [] .done) (.bit (.bt (.bit (.bt .nil) (.bf .nil))) (.bf (.bf .nil))) =
    ((((ilt (p) 4096) = true → (((ilt (p) (s)) = true → (E.forS [] fun S => Qx .normal 72 [(.int .i64 (n)), (.int .i64 (m)), (.int .i64 (s)), (.pointer (some ⟨(q), 0, none⟩)), (.bool false), (.int .i64 (IntKind.wrap .i64 (2 * (p))))] S)) ∧ ((ilt (p) (s)) = false → (E.forS [] fun S => Qx (.exit 0) 72 [(.int .i64 (n)), (.int .i64 (m)), (.int .i64 (s)), (.pointer (some ⟨(q), 0, none⟩)), (.bool false), (.int .i64 (p))] S)))) ∧ ((ilt (p) 4096) = false → (E.forS [] fun S => Qx (.exit 0) 72 [(.int .i64 (n)), (.int .i64 (m)), (.int .i64 (s)), (.pointer (some ⟨(q), 0, none⟩)), (.bool false), (.int .i64 (p))] S)))) := by kernel_rfl

set_option maxRecDepth 100000 in
theorem vc_of (E : Env) (n m s : Int) (Qx : AX → Nat → List Value → St → Prop) (Rx : Value → St → Prop) : VC E (fun ex f S => Qx ex f.n (obs f []) S) Rx (nfun Tryz.prog kn psM 900 14 [.int .i64 n, .int .i64 m, .int .i64 s] []) (.new fun n1 => (.bf (.bit (.bt (.bt (.bt (.bt (.bt (.bt (.ix 0 (.ok (.bf (.ix 0 (.ok .nil))))))))))) (.bf (.bit (.bt (.bt (.bt (.bt (.bt (.ix 0 (.ok (.bf (.ix 0 (.ok .nil)))))))))) (.bf (.bf (.bit (.bt (.bt (.bt (.ix 0 (.ok (.bf (.ix 0 (.ok .nil)))))))) (.bf (.bf (.bit (.bt (.ix 0 (.ok (.bf (.ix 0 (.ok .nil)))))) (.bf (.loop (ofL s n m).sl ((ofL s n m).shape [some ⟨(n1), (.row .cls 38 [(.int .i64 0), (.int .i64 0), (.int .i64 0), (.int .i64 0), (.int .i64 0)]), true⟩]) fun a2 => (.bit (.ix 0 (.ok (.bf (.ix 0 (.ok .nil))))) (.new fun n3 => (.ix 1 (.ok (.ix 1 (.ok (.ix 1 (.ok (.ix 1 (.ok (.call ((intS (bmap n m)) [some ⟨(n1), (.row .cls 38 [(.int .i64 0), (.int .i64 0), (.int .i64 0), (.int .i64 0), (.int .i64 0)]), true⟩, some ⟨(n3), (.row .cls 38 [(.int .i64 16), (.int .i64 (IntKind.wrap .i64 (16 + (IntKind.wrap .i64 (8 * (m)))))), (.int .i64 0), (.int .i64 0), (.int .i64 0)]), true⟩]) fun a4 => (.ix 1 (.ok (.ix 1 (.ok (.call ((intS (blks n m)) [some ⟨(n1), (.row .cls 38 [(.int .i64 0), (.int .i64 0), (.int .i64 0), (.int .i64 0), (.int .i64 0)]), true⟩, some ⟨(n3), (.row .cls 38 [(.int .i64 16), (.int .i64 (IntKind.wrap .i64 (16 + (IntKind.wrap .i64 (8 * (m)))))), (.int .i64 (bmap n m)), (.int .i64 0), (.int .i64 0)]), true⟩]) fun a5 => (.ix 1 (.ok (.ix 1 (.ok (.ix 1 (.ok (.ix 1 (.ok (.bit (.ix 0 (.ok (.bf (.ix 0 (.ok .nil))))) (.ix 1 (.ok (.ix 0 (.ok (.bt (.ix 0 (.ok .nil))))))))))))))))))))))))))))))))))))))))))))) =
    ((∀ n1 : Nat, (((ilt (n) 1) = true → (n1 = n1 ∧ (n1 = n1 ∧ (E.forS [some ⟨(n1), (.row .cls 38 [(.int .i64 0), (.int .i64 0), (.int .i64 0), (.int .i64 0), (.int .i64 0)]), true⟩] fun S => Rx (.tuple #[(.agg #[(.int .i64 0), (.int .i64 0), (.int .i64 0), (.int .i64 0), (.int .i64 0)]), (.bool false)]) S)))) ∧ ((ilt (n) 1) = false → (((ilt 65534 (n)) = true → (n1 = n1 ∧ (n1 = n1 ∧ (E.forS [some ⟨(n1), (.row .cls 38 [(.int .i64 0), (.int .i64 0), (.int .i64 0), (.int .i64 0), (.int .i64 0)]), true⟩] fun S => Rx (.tuple #[(.agg #[(.int .i64 0), (.int .i64 0), (.int .i64 0), (.int .i64 0), (.int .i64 0)]), (.bool false)]) S)))) ∧ ((ilt 65534 (n)) = false → (((ilt (m) 1) = true → (n1 = n1 ∧ (n1 = n1 ∧ (E.forS [some ⟨(n1), (.row .cls 38 [(.int .i64 0), (.int .i64 0), (.int .i64 0), (.int .i64 0), (.int .i64 0)]), true⟩] fun S => Rx (.tuple #[(.agg #[(.int .i64 0), (.int .i64 0), (.int .i64 0), (.int .i64 0), (.int .i64 0)]), (.bool false)]) S)))) ∧ ((ilt (m) 1) = false → (((ilt 65534 (m)) = true → (n1 = n1 ∧ (n1 = n1 ∧ (E.forS [some ⟨(n1), (.row .cls 38 [(.int .i64 0), (.int .i64 0), (.int .i64 0), (.int .i64 0), (.int .i64 0)]), true⟩] fun S => Rx (.tuple #[(.agg #[(.int .i64 0), (.int .i64 0), (.int .i64 0), (.int .i64 0), (.int .i64 0)]), (.bool false)]) S)))) ∧ ((ilt 65534 (m)) = false → (E.vloop [some ⟨(n1), (.row .cls 38 [(.int .i64 0), (.int .i64 0), (.int .i64 0), (.int .i64 0), (.int .i64 0)]), true⟩] 72 [(.int .i64 (n)), (.int .i64 (m)), (.int .i64 (s)), (.pointer (some ⟨(n1), 0, none⟩)), (.bool false), (.int .i64 64)] (ofL s n m).sl (ofL s n m).body ((ofL s n m).shape [some ⟨(n1), (.row .cls 38 [(.int .i64 0), (.int .i64 0), (.int .i64 0), (.int .i64 0), (.int .i64 0)]), true⟩]) fun a2 => ((((pwZ s) != (s)) = true → (n1 = nmAt [some (Ent.mk n1 (Blk.row Fl.cls (38 : Nat) (Value.agg #[Value.int IntKind.i64 (0 : Int), Value.int IntKind.i64 (0 : Int), Value.int IntKind.i64 (0 : Int), Value.int IntKind.i64 (0 : Int), Value.int IntKind.i64 (0 : Int)]).cells.toList) true)] (0 : Nat) ∧ (n1 = nmAt [some (Ent.mk n1 (Blk.row Fl.cls (38 : Nat) (Value.agg #[Value.int IntKind.i64 (0 : Int), Value.int IntKind.i64 (0 : Int), Value.int IntKind.i64 (0 : Int), Value.int IntKind.i64 (0 : Int), Value.int IntKind.i64 (0 : Int)]).cells.toList) true)] (0 : Nat) ∧ (E.forS [some ⟨(n1), (.row .cls 38 [(.int .i64 0), (.int .i64 0), (.int .i64 0), (.int .i64 0), (.int .i64 0)]), true⟩] fun S => Rx (.tuple #[(.agg #[(.int .i64 0), (.int .i64 0), (.int .i64 0), (.int .i64 0), (.int .i64 0)]), (.bool false)]) S)))) ∧ (((pwZ s) != (s)) = false → (∀ n3 : Nat, (n3 = n3 ∧ (n3 = n3 ∧ (n3 = n3 ∧ (n3 = n3 ∧ (E.vcall [some ⟨(n1), (.row .cls 38 [(.int .i64 0), (.int .i64 0), (.int .i64 0), (.int .i64 0), (.int .i64 0)]), true⟩, some ⟨(n3), (.row .cls 38 [(.int .i64 16), (.int .i64 (IntKind.wrap .i64 (16 + (IntKind.wrap .i64 (8 * (m)))))), (.int .i64 0), (.int .i64 0), (.int .i64 0)]), true⟩] 26 [(.int .i64 (IntKind.wrap .i64 ((IntKind.wrap .i64 (16 + (IntKind.wrap .i64 (8 * (m))))) + (n))))] ((intS (bmap n m)) [some ⟨(n1), (.row .cls 38 [(.int .i64 0), (.int .i64 0), (.int .i64 0), (.int .i64 0), (.int .i64 0)]), true⟩, some ⟨(n3), (.row .cls 38 [(.int .i64 16), (.int .i64 (IntKind.wrap .i64 (16 + (IntKind.wrap .i64 (8 * (m)))))), (.int .i64 0), (.int .i64 0), (.int .i64 0)]), true⟩]) fun a4 => (n3 = n3 ∧ (n3 = n3 ∧ ((64 : Int) ≠ (0 : Int) ∧ (E.vcall [some ⟨(n1), (.row .cls 38 [(.int .i64 0), (.int .i64 0), (.int .i64 0), (.int .i64 0), (.int .i64 0)]), true⟩, some ⟨(n3), (.row .cls 38 [(.int .i64 16), (.int .i64 (IntKind.wrap .i64 (16 + (IntKind.wrap .i64 (8 * (m)))))), (.int .i64 (bmap n m)), (.int .i64 0), (.int .i64 0)]), true⟩] 26 [(.int .i64 (IntKind.wrap .i64 ((bmap n m) + (IntKind.wrap .i64 (Int.tdiv (IntKind.wrap .i64 ((n) + 63)) 64)))))] ((intS (blks n m)) [some ⟨(n1), (.row .cls 38 [(.int .i64 0), (.int .i64 0), (.int .i64 0), (.int .i64 0), (.int .i64 0)]), true⟩, some ⟨(n3), (.row .cls 38 [(.int .i64 16), (.int .i64 (IntKind.wrap .i64 (16 + (IntKind.wrap .i64 (8 * (m)))))), (.int .i64 (bmap n m)), (.int .i64 0), (.int .i64 0)]), true⟩]) fun a5 => (n3 = n3 ∧ (n3 = n3 ∧ ((8 : Int) ≠ (0 : Int) ∧ (n3 = n3 ∧ (n3 = n3 ∧ (((ilt 4194304 (IntKind.wrap .i64 ((blks n m) + (IntKind.wrap .i64 (Int.tdiv (IntKind.wrap .i64 ((n) * (s))) 8))))) = true → (n1 = nmAt [some (Ent.mk n1 (Blk.row Fl.cls (38 : Nat) (Value.agg #[Value.int IntKind.i64 (0 : Int), Value.int IntKind.i64 (0 : Int), Value.int IntKind.i64 (0 : Int), Value.int IntKind.i64 (0 : Int), Value.int IntKind.i64 (0 : Int)]).cells.toList) true)] (0 : Nat) ∧ (n1 = nmAt [some (Ent.mk n1 (Blk.row Fl.cls (38 : Nat) (Value.agg #[Value.int IntKind.i64 (0 : Int), Value.int IntKind.i64 (0 : Int), Value.int IntKind.i64 (0 : Int), Value.int IntKind.i64 (0 : Int), Value.int IntKind.i64 (0 : Int)]).cells.toList) true)] (0 : Nat) ∧ (E.forS [some ⟨(n1), (.row .cls 38 [(.int .i64 0), (.int .i64 0), (.int .i64 0), (.int .i64 0), (.int .i64 0)]), true⟩, some ⟨(n3), (.row .cls 38 [(.int .i64 16), (.int .i64 (IntKind.wrap .i64 (16 + (IntKind.wrap .i64 (8 * (m)))))), (.int .i64 (bmap n m)), (.int .i64 (blks n m)), (.int .i64 (IntKind.wrap .i64 ((blks n m) + (IntKind.wrap .i64 (Int.tdiv (IntKind.wrap .i64 ((n) * (s))) 8)))))]), true⟩] fun S => Rx (.tuple #[(.agg #[(.int .i64 0), (.int .i64 0), (.int .i64 0), (.int .i64 0), (.int .i64 0)]), (.bool false)]) S)))) ∧ ((ilt 4194304 (IntKind.wrap .i64 ((blks n m) + (IntKind.wrap .i64 (Int.tdiv (IntKind.wrap .i64 ((n) * (s))) 8))))) = false → (n3 = n3 ∧ (n1 = nmAt [some (Ent.mk n1 (Blk.row Fl.cls (38 : Nat) (Value.agg #[Value.int IntKind.i64 (0 : Int), Value.int IntKind.i64 (0 : Int), Value.int IntKind.i64 (0 : Int), Value.int IntKind.i64 (0 : Int), Value.int IntKind.i64 (0 : Int)]).cells.toList) true)] (0 : Nat) ∧ (n1 = nmAt [some (Ent.mk n1 (Blk.row Fl.cls (38 : Nat) (Value.agg #[Value.int IntKind.i64 (0 : Int), Value.int IntKind.i64 (0 : Int), Value.int IntKind.i64 (0 : Int), Value.int IntKind.i64 (0 : Int), Value.int IntKind.i64 (0 : Int)]).cells.toList) true)] (0 : Nat) ∧ (E.forS [some ⟨(n1), (.row .cls 38 [(.int .i64 16), (.int .i64 (IntKind.wrap .i64 (16 + (IntKind.wrap .i64 (8 * (m)))))), (.int .i64 (bmap n m)), (.int .i64 (blks n m)), (.int .i64 (IntKind.wrap .i64 ((blks n m) + (IntKind.wrap .i64 (Int.tdiv (IntKind.wrap .i64 ((n) * (s))) 8)))))]), true⟩, some ⟨(n3), (.row .cls 38 [(.int .i64 16), (.int .i64 (IntKind.wrap .i64 (16 + (IntKind.wrap .i64 (8 * (m)))))), (.int .i64 (bmap n m)), (.int .i64 (blks n m)), (.int .i64 (IntKind.wrap .i64 ((blks n m) + (IntKind.wrap .i64 (Int.tdiv (IntKind.wrap .i64 ((n) * (s))) 8)))))]), true⟩] fun S => Rx (.tuple #[(.agg #[(.int .i64 16), (.int .i64 (IntKind.wrap .i64 (16 + (IntKind.wrap .i64 (8 * (m)))))), (.int .i64 (bmap n m)), (.int .i64 (blks n m)), (.int .i64 (IntKind.wrap .i64 ((blks n m) + (IntKind.wrap .i64 (Int.tdiv (IntKind.wrap .i64 ((n) * (s))) 8)))))]), (.bool true)]) S)))))))))))))))))))))))))))))))))) := by kernel_rfl

theorem ofV_false {n m s : Int} (h : ofB n m s = false) : ofW false n m s = ofV n m s := by unfold ofV; rw [h]
theorem ofV_true {n m s : Int} (h : ofB n m s = true) : ofW true n m s = ofV n m s := by unfold ofV; rw [h]

theorem pw_step {s p : Int} (hp : p = 64 ∨ p = 128 ∨ p = 256 ∨ p = 512 ∨ p = 1024 ∨ p = 2048 ∨ p = 4096) (h2 : p ≤ pwZ s) (h : p < 4096 ∧ p < s) : 2 * p ≤ pwZ s := by
  unfold pwZ at *
  rcases hp with rfl | rfl | rfl | rfl | rfl | rfl | rfl <;> split at h2 <;> (try omega) <;> (repeat' split) <;> omega
theorem pw_end {s p : Int} (hp : p = 64 ∨ p = 128 ∨ p = 256 ∨ p = 512 ∨ p = 1024 ∨ p = 2048 ∨ p = 4096) (h2 : p ≤ pwZ s) (h : 4096 ≤ p ∨ s ≤ p) : p = pwZ s := by
  unfold pwZ at *
  rcases hp with rfl | rfl | rfl | rfl | rfl | rfl | rfl <;> split at h2 <;> (try omega) <;> (repeat' split) <;> omega

theorem obs6 {f : Fr} {a b c d e g : Nat} {v1 v2 v3 v4 v5 v6 : Value} (h : obs f [a, b, c, d, e, g] = [v1, v2, v3, v4, v5, v6]) : f.g a = v1 ∧ f.g b = v2 ∧ f.g c = v3 ∧ f.g d = v4 ∧ f.g e = v5 ∧ f.g g = v6 := by simpa [obs] using h

theorem ofLoop (h : SmM sm) {ro q : Nat} {n m s : Int} {f : Fr} {S : St} (hK : TOK ro [] S) (hn : f.n = 72) (ho : obs f [0, 1, 2, 6, 7, 8] = [.int .i64 n, .int .i64 m, .int .i64 s, .pointer (some ⟨q, 0, none⟩), .bool false, .int .i64 64]) :
    ∃ g S', RLoop Tryz.prog kn sm ro ofC f S (.exit 0) (mkF 72 [(0, .int .i64 n), (1, .int .i64 m), (2, .int .i64 s), (6, .pointer (some ⟨q, 0, none⟩)), (7, .bool false), (8, .int .i64 (pwZ s))] g) S' ∧ Keep S S' ∧ TOK ro [] S' := by
  obtain ⟨ex, f', S', h1, rfl, h2, h3, h4⟩ := nloop (P := Tryz.prog) (kn := kn) (summ := sm) (ro := ro) (b := ofC) (α := Int) (fun p f S1 => TOK ro [] S1 ∧ Keep S S1 ∧ f = mkF 72 [(0, .int .i64 n), (1, .int .i64 m), (2, .int .i64 s), (6, .pointer (some ⟨q, 0, none⟩)), (7, .bool false), (8, .int .i64 p)] f.g ∧ (p = 64 ∨ p = 128 ∨ p = 256 ∨ p = 512 ∨ p = 1024 ∨ p = 2048 ∨ p = 4096) ∧ p ≤ pwZ s) (fun p => (4096 - p).toNat)
    (fun ex f S1 => ex = .exit 0 ∧ TOK ro [] S1 ∧ Keep S S1 ∧ f = mkF 72 [(0, .int .i64 n), (1, .int .i64 m), (2, .int .i64 s), (6, .pointer (some ⟨q, 0, none⟩)), (7, .bool false), (8, .int .i64 (pwZ s))] f.g) (fun p f S1 hI => by
      obtain ⟨i1, i2, i3, i4, i5⟩ := hI
      have hrun := ncode_use (E := En sm ro [] S1) (n := 900) (vc_ofL (En sm ro [] S1) n m s p q f.g (fun ex k vs S' => TOK ro [] S' ∧ Keep S1 S' ∧ k = 72 ∧ ((ex = .normal ∧ p < 4096 ∧ p < s ∧ vs = [.int .i64 n, .int .i64 m, .int .i64 s, .pointer (some ⟨q, 0, none⟩), .bool false, .int .i64 (IntKind.wrap .i64 (2 * p))]) ∨ (ex = .exit 0 ∧ (4096 ≤ p ∨ s ≤ p) ∧ vs = [.int .i64 n, .int .i64 m, .int .i64 s, .pointer (some ⟨q, 0, none⟩), .bool false, .int .i64 p]))) (fun _ _ => True)) rfl (h.ok ro [] S1) i1
        ⟨fun hb => ⟨fun hb2 S' k1 k2 => ⟨k1, k2.keep0, rfl, .inl ⟨rfl, ilt_iff.1 hb, ilt_iff.1 hb2, rfl⟩⟩, fun hb2 S' k1 k2 => ⟨k1, k2.keep0, rfl, .inr ⟨rfl, .inr (ilt_false.1 hb2), rfl⟩⟩⟩, fun hb S' k1 k2 => ⟨k1, k2.keep0, rfl, .inr ⟨rfl, .inl (ilt_false.1 hb), rfl⟩⟩⟩
      obtain ⟨ex, f', S', h1, h3, h4, h5, h6⟩ := hrun
      rw [← i3] at h1
      refine ⟨ex, f', S', h1, ?_⟩
      rcases h6 with ⟨rfl, h7, h8, h9⟩ | ⟨rfl, h7, h9⟩
      · obtain ⟨a1, a2, a3, a4, a5, a6⟩ := obs6 h9
        have hw : IntKind.wrap .i64 (2 * p) = 2 * p := wrap64_id (by omega) (by omega)
        rw [hw] at a6
        exact .inl ⟨rfl, 2 * p, ⟨h3, i2.trans h4, mkF_of h5 (by simp [a1, a2, a3, a4, a5, a6]), by omega, pw_step i4 i5 ⟨h7, h8⟩⟩, by omega⟩
      · obtain ⟨a1, a2, a3, a4, a5, a6⟩ := obs6 h9
        rw [pw_end i4 i5 h7] at a6
        exact .inr ⟨by simp, rfl, h3, i2.trans h4, mkF_of h5 (by simp [a1, a2, a3, a4, a5, a6])⟩) (a := 64) (f := f) (S := S) ⟨hK, Keep.refl _, by
          obtain ⟨a1, a2, a3, a4, a5, a6⟩ := obs6 ho
          exact mkF_of hn (by simp [a1, a2, a3, a4, a5, a6]), .inl rfl, by unfold pwZ; repeat' split <;> omega⟩ (by omega)
  exact ⟨f'.g, S', by rw [← h4]; exact h1, h3, h2⟩

theorem of_ok (h : SmM sm) (n m s : Int) : Pure sm 14 [.int .i64 n, .int .i64 m, .int .i64 s] (ofV n m s) := by
  intro ro S0 hK
  have fin : ∀ {K : Tab} {v : Value}, v = ofV n m s → (En sm ro [] S0).forS K fun S => v = ofV n m s ∧ Keep S0 S ∧ TOK ro [] S := fun hv S k1 k2 => ⟨hv, k2.keep0, k1.none⟩
  have hrun := nfun_use (E := En sm ro [] S0) (n := 900) (vc_of (En sm ro [] S0) n m s (fun _ _ _ _ => True) (fun v S => v = ofV n m s ∧ Keep S0 S ∧ TOK ro [] S)) rfl (h.ok ro [] S0) h.of hK ?_
  · obtain ⟨v, S', h1, rfl, h2, h3⟩ := hrun
    exact ⟨S', h1, h2, h3⟩
  intro n1
  refine ⟨fun c1 => ⟨rfl, rfl, fin (ofV_false (by have := ilt_iff.1 c1; simp [ofB]; omega))⟩, fun c1 => ⟨fun c2 => ⟨rfl, rfl, fin (ofV_false (by have := ilt_iff.1 c2; simp [ofB]; omega))⟩, fun c2 => ⟨fun c3 => ⟨rfl, rfl, fin (ofV_false (by have := ilt_iff.1 c3; simp [ofB]; omega))⟩, fun c3 => ⟨fun c4 => ⟨rfl, rfl, fin (ofV_false (by have := ilt_iff.1 c4; simp [ofB]; omega))⟩, fun c4 => ?_⟩⟩⟩⟩
  have c1 := ilt_false.1 c1
  have c2 := ilt_false.1 c2
  have c3 := ilt_false.1 c3
  have c4 := ilt_false.1 c4
  intro S2 f2 k1 k2 hn ho
  obtain ⟨g, S3, l1, l2, l3⟩ := ofLoop h k1.none hn ho
  refine ⟨g, S3, l1, k1.keep l2 l3, .same l2, by simp [ofL], ?_⟩
  refine ⟨fun c5 => ⟨rfl, rfl, fin (ofV_false ?_)⟩, fun c5 n3 => ⟨rfl, rfl, rfl, rfl, ?_⟩⟩
  · simp only [bne_iff_ne, ne_eq] at c5
    simp [ofB, c5]
  have c5 : pwZ s = s := by simpa using c5
  have hs : 64 ≤ s ∧ s ≤ 4096 := by unfold pwZ at c5; repeat' split at c5 <;> omega
  have w1 : IntKind.wrap .i64 (8 * m) = 8 * m := wrap64_id (by omega) (by omega)
  have w2 : IntKind.wrap .i64 (16 + 8 * m) = 16 + 8 * m := wrap64_id (by omega) (by omega)
  have w3 : IntKind.wrap .i64 (16 + 8 * m + n) = 16 + 8 * m + n := wrap64_id (by omega) (by omega)
  have hb : 0 ≤ bmap n m ∧ bmap n m ≤ 700000 := by unfold bmap upZ; omega
  have w4 : IntKind.wrap .i64 (n + 63) = n + 63 := wrap64_id (by omega) (by omega)
  have d4 : Int.tdiv (n + 63) 64 = (n + 63) / 64 := Int.tdiv_eq_ediv_of_nonneg (by omega)
  have w5 : IntKind.wrap .i64 ((n + 63) / 64) = (n + 63) / 64 := wrap64_id (by omega) (by omega)
  have w6 : IntKind.wrap .i64 (bmap n m + (n + 63) / 64) = bmap n m + (n + 63) / 64 := wrap64_id (by omega) (by omega)
  have hk : 0 ≤ blks n m ∧ blks n m ≤ 800000 := by unfold blks upZ; omega
  have hns : 0 ≤ n * s ∧ n * s ≤ 65534 * 4096 := ⟨Int.mul_nonneg (by omega) (by omega), Int.mul_le_mul (by omega) (by omega) (by omega) (by omega)⟩
  have w7 : IntKind.wrap .i64 (n * s) = n * s := wrap64_id (by omega) (by omega)
  have d7 : Int.tdiv (n * s) 8 = n * s / 8 := Int.tdiv_eq_ediv_of_nonneg (by omega)
  have w8 : IntKind.wrap .i64 (n * s / 8) = n * s / 8 := wrap64_id (by omega) (by omega)
  have w9 : IntKind.wrap .i64 (blks n m + n * s / 8) = endZ n m s := by rw [wrap64_id (by omega) (by omega)]; rfl
  rw [w1, w2, w3, w4, d4, w5, w6, w7, d7, w8, w9]
  intro S4 k3 k4
  refine Env.callSame k3 (fill_ok h ⟨by omega, by omega⟩ ro S4 k3.none) ⟨rfl, rfl, by decide, fun S5 k5 k6 => ?_⟩
  refine Env.callSame k5 (fill_ok h ⟨by omega, by omega⟩ ro S5 k5.none) ⟨rfl, rfl, by decide, rfl, rfl, fun c6 => ⟨rfl, rfl, fin (ofV_false ?_)⟩, fun c6 => ⟨rfl, rfl, rfl, fin (ofV_true ?_)⟩⟩
  · have := ilt_iff.1 c6
    simp [ofB]; omega
  · have := ilt_false.1 c6
    simp [ofB]; omega

end
end Go.Proofs.YtccpckiiademmaaGreatDoor

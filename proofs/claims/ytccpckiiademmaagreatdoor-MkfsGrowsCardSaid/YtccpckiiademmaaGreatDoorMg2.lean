/-
  MkfsGrows: Fits, Grow: what they say.
-/
import Derived.Test.YtccpckiiademmaaGreatDoorMg1
set_option linter.unusedSimpArgs false
set_option linter.unusedVariables false
namespace Go.Proofs.YtccpckiiademmaaGreatDoor
open Go Go.Ab Go.Proofs

section
variable {sm : Summ}

def ofS (n m s : Int) : Tab → Unit → Value × Tab := fun K _ => (.tuple #[.agg #[.int .i64 (sel (ofB n m s) 16), .int .i64 (sel (ofB n m s) (slots n m)), .int .i64 (sel (ofB n m s) (bmap n m)), .int .i64 (sel (ofB n m s) (blks n m)), .int .i64 (sel (ofB n m s) (endZ n m s))], .bool (ofB n m s)], K)

set_option maxRecDepth 100000 in
theorem vc_fits (E : Env) (w n m s : Int) (Qx : AX → Nat → List Value → St → Prop) (Rx : Value → St → Prop) : VC E (fun ex f S => Qx ex f.n (obs f []) S) Rx (nfun Tryz.prog kn psM 900 6 [.int .i64 w, .int .i64 n, .int .i64 m, .int .i64 s] []) (.bf (.call ((ofS n m s) []) fun a1 => (.bit (.new fun n2 => (.ix 0 (.ok (.bt (.bt (.bt (.ix 0 (.ok (.bit (.bt (.bt .nil)) (.bf (.bf .nil))))))))))) (.new fun n2 => (.ix 0 (.ok (.bf (.bf (.bf (.bf (.bf .nil))))))))))) =
    ((E.vcall [] 14 [(.int .i64 (n)), (.int .i64 (m)), (.int .i64 (s))] ((ofS n m s) []) fun a1 => (((ofB n m s) = true → (∀ n2 : Nat, (n2 = n2 ∧ (n2 = n2 ∧ (((!(ilt (w) (sel (ofB n m s) (endZ n m s)))) = true → (E.forS [some ⟨(n2), (.row .cls 38 [(.int .i64 (sel (ofB n m s) 16)), (.int .i64 (sel (ofB n m s) (slots n m))), (.int .i64 (sel (ofB n m s) (bmap n m))), (.int .i64 (sel (ofB n m s) (blks n m))), (.int .i64 (sel (ofB n m s) (endZ n m s)))]), true⟩] fun S => Rx (.bool true) S)) ∧ ((!(ilt (w) (sel (ofB n m s) (endZ n m s)))) = false → (E.forS [some ⟨(n2), (.row .cls 38 [(.int .i64 (sel (ofB n m s) 16)), (.int .i64 (sel (ofB n m s) (slots n m))), (.int .i64 (sel (ofB n m s) (bmap n m))), (.int .i64 (sel (ofB n m s) (blks n m))), (.int .i64 (sel (ofB n m s) (endZ n m s)))]), true⟩] fun S => Rx (.bool false) S))))))) ∧ ((ofB n m s) = false → (∀ n2 : Nat, (n2 = n2 ∧ (E.forS [some ⟨(n2), (.row .cls 38 [(.int .i64 (sel (ofB n m s) 16)), (.int .i64 (sel (ofB n m s) (slots n m))), (.int .i64 (sel (ofB n m s) (bmap n m))), (.int .i64 (sel (ofB n m s) (blks n m))), (.int .i64 (sel (ofB n m s) (endZ n m s)))]), true⟩] fun S => Rx (.bool false) S))))))) := by kernel_rfl

theorem fits_ok (h : SmM sm) (w n m s : Int) : Pure sm 6 [.int .i64 w, .int .i64 n, .int .i64 m, .int .i64 s] (.bool (fitsB w n m s)) := by
  intro ro S0 hK
  have fin : ∀ {K : Tab} {v : Value}, v = .bool (fitsB w n m s) → (En sm ro [] S0).forS K fun S => v = .bool (fitsB w n m s) ∧ Keep S0 S ∧ TOK ro [] S := fun hv S k1 k2 => ⟨hv, k2.keep0, k1.none⟩
  have hrun := nfun_use (E := En sm ro [] S0) (n := 900) (vc_fits (En sm ro [] S0) w n m s (fun _ _ _ _ => True) (fun v S => v = .bool (fitsB w n m s) ∧ Keep S0 S ∧ TOK ro [] S)) rfl (h.ok ro [] S0) h.fits hK ?_
  · obtain ⟨v, S', h1, rfl, h2, h3⟩ := hrun
    exact ⟨S', h1, h2, h3⟩
  intro S1 k1 k2
  refine Env.callSame k1 (of_ok h n m s ro S1 k1.none) ⟨fun c1 => ?_, fun c1 => ?_⟩
  · intro n1
    refine ⟨rfl, rfl, fun c2 => fin ?_, fun c2 => fin ?_⟩
    · have := ilt_false.1 (by simpa using c2 : ilt w (sel (ofB n m s) (endZ n m s)) = false)
      rw [c1] at this
      simp only [sel, cond_true] at this
      simp [fitsB, c1, this]
    · have := ilt_iff.1 (by simpa using c2 : ilt w (sel (ofB n m s) (endZ n m s)) = true)
      rw [c1] at this
      simp only [sel, cond_true] at this
      simp [fitsB, c1]; omega
  · intro n1
    exact ⟨rfl, fin (by simp [fitsB, c1])⟩

end
end Go.Proofs.YtccpckiiademmaaGreatDoor

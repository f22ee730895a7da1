/-
  MkfsGrows holds: for every three integers the law returns true, and the integers read as they did. Conditions: none; the listed package-level variables start as the program's text lays them (the card ties them).
-/
import Derived.Test.YtccpckiiademmaaGreatDoorMg4
import Derived.Test.YtccpckiiademmaaGreatDoorLv7
import Derived.Test.YtccpckiiademmaaGreatDoorLvE
import Derived.Test.YtccpckiiademmaaGreatDoorRows
import Derived.Test.YtccpckiiademmaaGreatDoorCards
import Derived.Test.YtccpckiiademmaaGreatDoorTie
import Derived.ProofKit
import Derived.LaidMore
import Derived.OpenShut
import Derived.ChangeOld
import Derived.Stop.Joined
import Derived.SevenTiedAt
set_option linter.unusedSimpArgs false
namespace Go.Proofs.YtccpckiiademmaaGreatDoor
open Go Go.Ab Go.Proofs
open Go.ChangeShapes Go.WideShapes Go.ChangeAt Go.WideMaps Go.WideElems Go.RowKit

theorem only_ok {P : Program} {summ : Summ} {g : FuncId} {s : Nat → List Value → St → Option (Value × St)} (h : SummOK P (addS g s summ)) : SummOK P (fun h => cond (Nat.beq h g) (some s) none) := by
  intro g' s' hs
  replace hs : (cond (Nat.beq g' g) (some s) none) = some s' := hs
  refine h g' s' ?_
  unfold addS
  cases hb : Nat.beq g' g with
  | true => rw [hb] at hs; exact hs
  | false => rw [hb] at hs; cases hs

theorem s20_ok : SummOK Tryz.prog s20 := append0_ok (allNil_ok ok20)
theorem ok21 : SummOK Tryz.prog (addS 4 (pureS pT) s20) := pure_ok progOK s20_ok fun args v h => by
  unfold pT at h
  split at h
  · simp only [Option.some.injEq] at h; subst h; exact ⟨rfl, rfl, 100000, run21⟩
  · cases h

noncomputable def SM : Summ := addS 4 (pureS pT) (g10 gb)
theorem SM_ok : SummOK Tryz.prog SM := addS_ok (g10_ok) (only_ok ok21)
theorem SM_M : SmM SM where
  ps := addP_ok (addP_ok (s := g9 gb) (fun g p h => by
    unfold addP at h
    unfold g9 addS
    cases hb : Nat.beq g 12 with
    | true => rw [hb] at h; simp only [cond_true, Option.some.injEq] at h ⊢; rw [h]
    | false => rw [hb] at h; cases h))
  fill := rfl
  of := rfl
  fits := rfl
  grow := rfl

/-- THE WALK. -/
theorem walk (a b c : Int) (w : World) : Calls Tryz.prog 3 #[.int .i64 a, .int .i64 b, .int .i64 c] w fun e w' => e = .returned (.bool true) ∧ Below w.heap.size w w' := by
  have hT : TOK 16 [] S0 := ⟨fun n b h => by simp [S0, Tr.get] at h, fun i e h => by simp [tget] at h, fun i j e e' h => by simp [tget] at h, fun i e h => by simp [tget] at h, by decide⟩
  obtain ⟨S1, h1, _⟩ := law_ok SM_M rfl a b c 16 S0 hT
  obtain ⟨m, hm⟩ := rcall_acall h1
  have hargs : VRl ρ0 (#[Value.int .i64 a, .int .i64 b, .int .i64 c]).toList [.int .i64 a, .int .i64 b, .int .i64 c] := .cons (.int _ _) (.cons (.int _ _) (.cons (.int _ _) (.nil _)))
  refine (acall_ok progOK SM_ok m 16 _ _ S0 _ S1 hm S0_wf ρ0 w _ ρ0_WR hargs (ρ0_free (by decide)) (by decide)).mono ?_
  rintro e w' ⟨cv, ρ', rfl, hp, hv⟩
  cases hv
  exact ⟨rfl, hp.os, hp.tape, hp.output, hp.size, fun B hB => hp.frame B hB (fun n b l _ h => by simp [S0, Tr.get] at h)⟩

theorem own : ownKnob Tryz.prog.godebug = none := by kernel_rfl
theorem laidOut : laidOutB Tryz.prog = true := by kernel_rfl

/-- A pinned table's cells. -/
def litV : DataW Unit → Value
  | .lit (.int k n) => .int k n
  | _ => undef
def aggL : DataW Unit → List (DataW Unit)
  | .agg l => l
  | _ => []
def firstCells : Array Value := ((aggL Rows.laid_unicode_utf8_first).map litV).toArray

/-- A world that meets the condition: the door's own heap, the pinned table laid. -/
noncomputable def laidWorld (os : Os) : World :=
  let w0 := World.doorLaid Tryz.prog 4000 os
  { w0 with heap := w0.heap.modify 1 fun
      | .cells _ t frozen => .cells firstCells t frozen
      | o => o }

theorem door_met (os : Os) (args : Array Value) : laidMetH Tryz.prog Rows.mkfsGrowsRow.laid ((laidWorld os).forCall (fun _ _ => 0) ⟨#[], args, []⟩).memory :=
  laidMetH_of_parts3 (fuel := 8) (laidMet_of_run' 8 (by kernel_rfl) (by kernel_rfl)) (by kernel_rfl) (by kernel_rfl)


set_option maxRecDepth 100000 in
theorem lifted (os : Os) (started : os.Started) (H : Type) (enc : TypeId × Value → H) :
    ReturnsInHanded {} Tryz.checked os 3 .any (fun w args => (Rows.mkfsGrowsSpec.pre enc Tryz.prog Tryz.f3 [] false w args ∧ laidMetH Tryz.prog Rows.mkfsGrowsRow.laid w) ∧ sizedMet enc Tryz.prog Tryz.f3 (OpenSpec.ofChange Rows.mkfsGrowsSpec) false w args)
      (Rows.mkfsGrowsSpec.post enc Tryz.prog Tryz.f3 false true false false) := by
  refine returnsInHanded_of_change_and (C := Tryz.checked) (X := fun w _ => laidMetH Tryz.prog Rows.mkfsGrowsRow.laid w) (fun _ _ _ hh h => h.of_heap hh) own started (by kernel_rfl) Tryz.func3
    (ChangeSpec.witness_shaped (enc := enc) (C := Tryz.checked) (os := os) (X := fun w _ => laidMetH Tryz.prog Rows.mkfsGrowsRow.laid w) false (laidWorld os) #[.int .i64 0, .int .i64 0, .int .i64 0] 8 rfl (World.shaped_of_RefB (by kernel_rfl) (by kernel_rfl)) (by kernel_rfl) (by kernel_rfl) (by kernel_rfl) (door_met os _)) ?_
  intro W base args ds gs before hval0 hW _ _ hL _
  have hval : ∀ (j : Nat) t v, Tryz.f3.params[j]? = some t → args[j]? = some v → Value.okWide Tryz.prog W .any base t v := hval0
  have hW' := hW
  obtain ⟨p, q, hA0, hV, rfl, hfz, hnd⟩ := hW
  have hA : DataW.TrodAll enc Tryz.prog W 0 (fun _ => true) true Tryz.f3.params.toList args.toList ds p := hA0
  rw [Tryz.params3] at hA hval
  obtain ⟨v0, v1, v2, d0, d1, d2, p0, p1, p2, hargs, rfl, rfl, h0, h1, h2⟩ := trodAll_three hA
  obtain ⟨rfl, rfl⟩ := trodVars_none hV
  obtain ⟨a, rfl, rfl, rfl, wa⟩ := open_int Tryz.underlying3 (hval 0 3 v0 rfl (by rw [hargs]; rfl)) h0
  obtain ⟨b, rfl, rfl, rfl, wb⟩ := open_int Tryz.underlying3 (hval 1 3 v1 rfl (by rw [hargs]; rfl)) h1
  obtain ⟨c, rfl, rfl, rfl, wc⟩ := open_int Tryz.underlying3 (hval 2 3 v2 rfl (by rw [hargs]; rfl)) h2
  subst hargs
  clear hA0 hval0
  simp only [List.append_nil] at hW'
  refine (walk a b c W).mono fun e W' ⟨he, bel⟩ => ?_
  subst he
  exact ⟨_, rfl, _, _, _, [], _, [], hW', trodAll_mk1 (shut_bool Tryz.underlying4 _), (trodAll_cons_mk (shut_int Tryz.underlying3 wa) (trodAll_cons_mk (shut_int Tryz.underlying3 wb) (trodAll_cons_mk (shut_int Tryz.underlying3 wc) trodAll_mk0))), rfl, bel.frame _, fun h => by cases h⟩

theorem row_holds : Rows.MkfsGrowsSaid :=
  OpenClaim.holds_of_wide 3 Tryz.f3 rfl rfl rfl rfl rfl rfl rfl ⟨rfl, rfl, rfl, rfl, rfl⟩ rfl rfl rfl rfl rfl (by kernel_rfl) Tryz.func3 (by kernel_rfl)
    (of_decide_eq_true (by kernel_rfl)) (by unfold Func.isWrapper; first | (rw [if_pos (by decide +kernel)]; kernel_rfl) | (rw [if_neg (by decide +kernel)]; exact ⟨rfl, rfl⟩))
    (fun os started H enc _ => lifted os started H enc)

/-- THE STATEMENT. -/
theorem card_holds : Rows.MkfsGrowsCardSaid :=
  Claim7.holds_tied_plain_at .later [] [.data, .pinned] true (true, "e3d70d2ce1a9a2072811e230675dcfe090d0b1c9efeeb30873782bc2d13dc6c2") false
    row_holds (fun _ h => by cases h) (by kernel_rfl) (fun _ h => by cases h) mkfsGrows_row_tie rfl ⟨rfl, rfl⟩ (by kernel_rfl) rfl
    (fun f fn hf hfn => by
      obtain rfl : f = 3 := Option.some.inj ((show Tryz.prog.funcNamed "cantle/cantlelaw21.MkfsGrows" = some 3 by kernel_rfl).symm.trans hf) |>.symm
      obtain rfl : fn = Tryz.f3 := (Option.some.inj (Tryz.func3.symm.trans hfn)).symm
      exact ⟨by kernel_rfl, fun j t ht => by
        rw [Tryz.params3] at ht
        have hm : t ∈ [3, 3, 3] := by simpa using Array.mem_of_getElem? ht
        have hall : ([3, 3, 3].all fun u => !Tryz.prog.wantsStandIn u) = true := by kernel_rfl
        exact (show Tryz.prog.wantsStandIn t = false by simpa using List.all_eq_true.1 hall t hm)⟩)
    (by kernel_rfl)

end Go.Proofs.YtccpckiiademmaaGreatDoor

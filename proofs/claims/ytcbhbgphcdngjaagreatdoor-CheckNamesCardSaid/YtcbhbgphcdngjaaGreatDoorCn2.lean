/-
  CheckNames holds: for every integer the law returns true, and the integer reads as it did. Conditions: none; the listed package-level variables start as the program's text lays them (the card ties them).
-/
import Derived.Test.YtcbhbgphcdngjaaGreatDoorCn1
import Derived.Test.YtcbhbgphcdngjaaGreatDoorLvE
import Derived.Test.YtcbhbgphcdngjaaGreatDoorRows
import Derived.Test.YtcbhbgphcdngjaaGreatDoorCards
import Derived.Test.YtcbhbgphcdngjaaGreatDoorTie
import Derived.ProofKit
import Derived.LaidMore
import Derived.OpenShut
import Derived.ChangeOld
import Derived.Stop.Joined
import Derived.SevenTiedAt
set_option linter.unusedSimpArgs false
namespace Go.Proofs.YtcbhbgphcdngjaaGreatDoor
open Go Go.Ab Go.Proofs
open Go.ChangeShapes Go.WideShapes Go.ChangeAt Go.WideMaps Go.WideElems Go.RowKit

/-- THE WALK. -/
theorem walk (f : Int) (w : World) (h : NamesAt w) : Calls Tryz.prog 3 #[.int .i64 f] w fun e w' => e = .returned (.bool true) ∧ Below w.heap.size w w' := by
  obtain ⟨S1, h1⟩ := res_some (go_all f)
  have hargs : VRl ρG (#[Value.int .i64 f]).toList [.int .i64 f] := .cons (.int _ _) (.nil _)
  refine (acall_ok progOK ok19 100000 16 _ _ Hn _ S1 h1 Hn_wf ρG w _ (Hn_WR h) hargs (ρG_free (by decide)) (by decide)).mono ?_
  rintro e w' ⟨cv, ρ', rfl, hp, hv⟩
  cases hv
  refine ⟨rfl, hp.os, hp.tape, hp.output, hp.size, fun B hB => hp.frame B hB (fun n b l hn hb _ => ?_)⟩
  rw [Hn_get] at hb
  split at hb
  · rename_i e1; subst e1; exact absurd hn (by decide)
  · cases hb


theorem own : ownKnob Tryz.prog.godebug = none := by kernel_rfl
theorem laidOut : laidOutB Tryz.prog = true := by kernel_rfl
theorem gNames : Tryz.prog.globalNamed "cantle/check.names" = some 0 := by kernel_rfl
theorem tNames : (Tryz.prog.globals[0]?).map (·.type) = some 30 := by kernel_rfl
theorem c9 : Tryz.prog.cellsOf 9 = 1 := by kernel_rfl

/-- A pinned table's cells. -/
def litV : DataW Unit → Value
  | .lit (.int k n) => .int k n
  | _ => undef
def aggL : DataW Unit → List (DataW Unit)
  | .agg l => l
  | _ => []
def firstCells : Array Value := ((aggL Rows.laid_unicode_utf8_first).map litV).toArray

/-- A world that meets the condition: the door's own heap, the pinned table laid. -/
noncomputable def laidWorld (os : Os) : World :=
  let w0 := World.doorLaid Tryz.prog 4000 os
  { w0 with heap := w0.heap.modify 2 fun
      | .cells _ t frozen => .cells firstCells t frozen
      | o => o }

theorem door_met (os : Os) (args : Array Value) : laidMetH Tryz.prog Rows.checkNamesRow.laid ((laidWorld os).forCall (fun _ _ => 0) ⟨#[], args, []⟩).memory :=
  laidMetH_of_parts3 (fuel := 8) (laidMet_of_run' 8 (by kernel_rfl) (by kernel_rfl)) (by kernel_rfl) (by kernel_rfl)

set_option maxRecDepth 100000 in
theorem of_laid {W : World} (h : laidMetH Tryz.prog Rows.checkNamesRow.laid W) : NamesAt W := by
  rw [MakeChecks.laidMetH_plain _ _ _ (by kernel_rfl)] at h
  obtain ⟨ps, ⟨g0, t0, cs0, f0, p0, q0, hg0, ht0, hv0, hd0, ⟨g1, t1, cs1, f1, p1, q1, hg1, ht1, hv1, hd1, _, _⟩, _⟩, _, _⟩ := h
  obtain rfl := Option.some.inj (gNames.symm.trans hg1)
  obtain rfl := Option.some.inj (tNames.symm.trans ht1)
  obtain ⟨xs, m1, rfl, hx1, hlen, hn3, hel⟩ := DataW.trod_array Tryz.underlying30 hd1
  have hxs : xs.map (·.1) = [.lit (.string [110, 111, 110, 101]), .lit (.string [115, 117, 112, 101, 114]), .lit (.string [99, 108, 97, 105, 109, 115]), .lit (.string [114, 111, 111, 116]), .lit (.string [102, 111, 108, 100, 101, 114]), .lit (.string [108, 105, 110, 107]), .lit (.string [100, 101, 101, 112]), .lit (.string [111, 114, 112, 104, 97, 110]), .lit (.string [98, 105, 116, 109, 97, 112]), .lit (.string [114, 101, 99, 111, 114, 100])] := by
    have h : Rows.laid_cantle_check_names = DataW.agg (xs.map (·.1)) := congrArg Prod.fst hx1
    unfold Rows.laid_cantle_check_names at h
    simp only [DataW.agg.injEq] at h
    exact h.symm
  have hv1' := hv1
  simp only [World.var?, hg1, Option.bind_some] at hv1'
  split at hv1'
  · rename_i cc e fr hcells
    simp only [Option.some.injEq] at hv1'
    subst hv1'
    refine ⟨cc, e, fr, hcells, fun i u hu => ?_⟩
    have hi : i < 10 := (List.getElem?_eq_some_iff.1 hu).1
    have h0 := hel i hi
    obtain ⟨x, hx⟩ : ∃ x, xs[i]? = some x := ⟨xs[i]'(by omega), List.getElem?_eq_getElem (by omega)⟩
    rw [hx] at h0
    obtain ⟨s, hs1, hs2, _⟩ := DataW.trod_string Tryz.underlying9 h0
    rw [c9, Nat.mul_one] at hs1
    have hci : cc[i]? = some (.string s) := by
      have := congrArg (fun l => l[0]?) hs1
      simpa using this
    rw [hci]
    have hm : (xs.map (·.1))[i]? = some (.lit (.string s.data.toList)) := by
      rw [List.getElem?_map, hx, hs2]; rfl
    rw [hxs] at hm
    have hdata : ∀ l : List UInt8, s.data.toList = l → s = ⟨l.toArray⟩ := fun l hl => by
      cases s with
      | mk d => congr 1; apply Array.ext'; simpa using hl
    match i, hi, hm, hu with
    | 0, _, hm, hu | 1, _, hm, hu | 2, _, hm, hu | 3, _, hm, hu | 4, _, hm, hu | 5, _, hm, hu | 6, _, hm, hu | 7, _, hm, hu | 8, _, hm, hu | 9, _, hm, hu =>
      simp only [namesL, List.getElem?_cons_zero, List.getElem?_cons_succ, Option.some.injEq, DataW.lit.injEq, Lit.string.injEq] at hm hu
      rw [hdata _ hm.symm, hu]
  · cases hv1'

set_option maxRecDepth 100000 in
theorem lifted (os : Os) (started : os.Started) (H : Type) (enc : TypeId × Value → H) :
    ReturnsInHanded {} Tryz.checked os 3 .any (fun w args => (Rows.checkNamesSpec.pre enc Tryz.prog Tryz.f3 [] false w args ∧ laidMetH Tryz.prog Rows.checkNamesRow.laid w) ∧ sizedMet enc Tryz.prog Tryz.f3 (OpenSpec.ofChange Rows.checkNamesSpec) false w args)
      (Rows.checkNamesSpec.post enc Tryz.prog Tryz.f3 false true false false) := by
  refine returnsInHanded_of_change_and (C := Tryz.checked) (X := fun w _ => laidMetH Tryz.prog Rows.checkNamesRow.laid w) (fun _ _ _ hh h => h.of_heap hh) own started (by kernel_rfl) Tryz.func3
    (ChangeSpec.witness_shaped (enc := enc) (C := Tryz.checked) (os := os) (X := fun w _ => laidMetH Tryz.prog Rows.checkNamesRow.laid w) false (laidWorld os) #[.int .i64 0] 8 rfl (World.shaped_of_RefB (by kernel_rfl) (by kernel_rfl)) (by kernel_rfl) (by kernel_rfl) (by kernel_rfl) (door_met os _)) ?_
  intro W base args ds gs before hval0 hW _ _ hL _
  have hval : ∀ (j : Nat) t v, Tryz.f3.params[j]? = some t → args[j]? = some v → Value.okWide Tryz.prog W .any base t v := hval0
  have hW' := hW
  obtain ⟨p, q, hA0, hV, rfl, hfz, hnd⟩ := hW
  have hA : DataW.TrodAll enc Tryz.prog W 0 (fun _ => true) true Tryz.f3.params.toList args.toList ds p := hA0
  rw [Tryz.params3] at hA hval
  obtain ⟨v0, d0, rfl, rfl, h0⟩ := trodAll_one hA
  obtain ⟨rfl, rfl⟩ := trodVars_none hV
  obtain ⟨a, rfl, rfl, rfl, wa⟩ := open_int Tryz.underlying3 (hval 0 3 v0 rfl rfl) h0
  clear hA0 hval0
  simp only [List.append_nil] at hW'
  refine (walk a W (of_laid hL)).mono fun e W' ⟨he, bel⟩ => ?_
  subst he
  exact ⟨_, rfl, _, _, _, [], _, [], hW', trodAll_mk1 (shut_bool Tryz.underlying4 _), (trodAll_cons_mk (shut_int Tryz.underlying3 wa) trodAll_mk0), rfl, bel.frame _, fun h => by cases h⟩

theorem row_holds : Rows.CheckNamesSaid :=
  OpenClaim.holds_of_wide 3 Tryz.f3 rfl rfl rfl rfl rfl rfl rfl ⟨rfl, rfl, rfl, rfl, rfl⟩ rfl rfl rfl rfl rfl (by kernel_rfl) Tryz.func3 (by kernel_rfl)
    (of_decide_eq_true (by kernel_rfl)) (by unfold Func.isWrapper; first | (rw [if_pos (by decide +kernel)]; kernel_rfl) | (rw [if_neg (by decide +kernel)]; exact ⟨rfl, rfl⟩))
    (fun os started H enc _ => lifted os started H enc)

/-- THE STATEMENT. -/
theorem card_holds : Rows.CheckNamesCardSaid :=
  Claim7.holds_tied_plain_at .later [] [.data, .data, .pinned] true (true, "99ea2129f380ac54abf223aed3d6cc2b80ed933cc9863f85233b8683d1bb56d1") false
    row_holds (fun _ h => by cases h) (by kernel_rfl) (fun _ h => by cases h) checkNames_row_tie rfl ⟨rfl, rfl⟩ (by kernel_rfl) rfl
    (fun f fn hf hfn => by
      obtain rfl : f = 3 := Option.some.inj ((show Tryz.prog.funcNamed "cantle/cantlelaw19.CheckNames" = some 3 by kernel_rfl).symm.trans hf) |>.symm
      obtain rfl : fn = Tryz.f3 := (Option.some.inj (Tryz.func3.symm.trans hfn)).symm
      exact ⟨by kernel_rfl, fun j t ht => by
        rw [Tryz.params3] at ht
        have hm : t ∈ [3] := by simpa using Array.mem_of_getElem? ht
        have hall : ([3].all fun u => !Tryz.prog.wantsStandIn u) = true := by kernel_rfl
        exact (show Tryz.prog.wantsStandIn t = false by simpa using List.all_eq_true.1 hall t hm)⟩)
    (by kernel_rfl)

end Go.Proofs.YtcbhbgphcdngjaaGreatDoor

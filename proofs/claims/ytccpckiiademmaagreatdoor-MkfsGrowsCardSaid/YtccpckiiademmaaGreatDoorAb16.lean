/-
  ABSTRACT HEAPS, part 16: the theorem on regions that draw; code; calls.
-/
import Derived.Test.YtccpckiiademmaaGreatDoorAb15
set_option linter.unusedSimpArgs false
namespace Go.Ab

theorem pfold_none {X : Type} {ch : Nat → Nat → Bool} {out : Nat → Nat → X} {F : Nat → X} : ∀ n, pfold ch out (fun _ => false) n F = F
  | 0 => rfl
  | n + 1 => by
    funext k
    simp only [pfold, Bool.false_and, Bool.false_eq_true, if_false]
    rw [pfold_none n]

theorem pfold_all {X : Type} {ch : Nat → Nat → Bool} {out : Nat → Nat → X} {F : Nat → X} {L : Nat → Bool} {n : Nat} (h : ∀ j, j < n → L j = true) : pfold ch out L n F = pfold ch out (fun _ => true) n F := by
  funext k
  exact pfold_same (fun j hj hne => absurd (h j hj) hne)

section
variable {P : Program} {okS : Kn} {call : ACall} {ro : Nat} {ops : Array Oper} {R : Nat → Rec} {f : Fr} {S : St}

/-- What holds behind those of the list. -/
def DI (P : Program) (ro : Nat) (ops : Array Oper) (R : Nat → Rec) (f : Fr) (S : St) (ρ0 : Rn) (w0 : World) (ds : List Deferred) (cn : Nat) (L : Nat → Bool) (a : Act) (w : World) : Prop :=
  ∃ ρ, Ext ρ0 ρ ∧ Post P ro ρ0 S.h.get S.next w0 ρ (pfold (chH R) (outH R) L ops.size S.h.get) cn w ∧ TR ρ a.tmps (frL R L f ops.size) ∧ a.defers = ds ∧
    ∀ j, j < ops.size → L j = false → FreeOn ρ (R j).S.next (R j).S'.next

theorem merge_eq (h : Walked P okS call ro ops R f S) (hwf : WF S) {L : Nat → Bool} (hc : Closed R ops.size L) {i : Nat} (hi : i < ops.size) (hL : L i = false) (hr : ∀ e, e ∈ (R i).o.after.toList → Region.binds .any e = true → L e.on = true) (hw : (R i).want = true)
    {ρ ρ' : Rn} {w w' : World} (hp : Post P (R i).ro ρ (R i).T.get (R i).S.next w ρ' (R i).S1.h.get (R i).S1.next w') :
    merge (pfold (chH R) (outH R) L ops.size S.h.get) (R i).T.get (R i).S1.h.get (R i).S.next (R i).S1.next = pfold (chH R) (outH R) (fun j => if j = i then true else L j) ops.size S.h.get := by
  have hg := (h.at_ i hi).good
  have hnx := (hg.runs hw).2
  funext n
  rw [pfold_put hi hL (fun j h1 h2 h3 h4 => ?_)]
  · unfold merge
    by_cases hrng : (R i).S.next ≤ n ∧ n < (R i).S1.next
    · have hcht : chH R i n = true := Rec.ch_eq.2 ⟨hw, .inr (by rw [← hnx]; exact hrng)⟩
      rw [if_pos (.inr hrng), if_pos hcht]
      rfl
    · cases hT : (R i).T.get n with
      | some b =>
        rw [if_pos (.inl (by simp))]
        by_cases hch : chH R i n = true
        · rw [if_pos hch]; rfl
        · rw [if_neg hch]
          -- it is seen, and isn't turned
          have hsee := seesH h hwf hc hi hL hr hw n (.inr ⟨b, hT⟩)
          have hnw : n ∉ (R i).oi.wr := fun hm => hch (Rec.ch_eq.2 ⟨hw, .inl hm⟩)
          have hSn : (R i).S.h.get n = some b := by
            cases hC : (R i).oi.isC with
            | false =>
              rw [hg.sees hw hC] at hT
              split at hT
              · exact hT
              · cases hT
            | true =>
              rw [(hg.seesC hw hC).2] at hT
              split at hT
              · cases hT
              · exact hT
          have hlt := h.wf hwf hi hSn
          rw [hsee, hSn, ← hT]
          by_cases hwr : (R i).oi.wr = []
          · rcases hg.still hw hwr with h5 | h5
            · exact hp.keep n (by rw [h5]; exact hlt)
            · rw [h5 n] at hT; cases hT
          · exfalso
            cases hC : (R i).oi.isC with
            | true => exact hwr (hg.seesC hw hC).1
            | false =>
              rw [hg.wrall hw hC hwr] at hnw
              rw [hg.sees hw hC, if_neg hnw] at hT
              cases hT
      | none =>
        have hno : ¬ ((none : Option Blk).isSome = true ∨ ((R i).S.next ≤ n ∧ n < (R i).S1.next)) := by
          intro e
          rcases e with e | e
          · cases e
          · exact hrng e
        rw [if_neg hno]
        by_cases hch : chH R i n = true
        · rw [if_pos hch]
          obtain ⟨_, h5⟩ := Rec.ch_eq.1 hch
          have hmem : n ∈ (R i).oi.wr := by
            rcases h5 with h5 | h5
            · exact h5
            · rw [← hnx] at h5; exact absurd h5 hrng
          have hwr : (R i).oi.wr ≠ [] := fun e => by rw [e] at hmem; simp at hmem
          have hC : (R i).oi.isC = false := by
            cases hC : (R i).oi.isC with
            | false => rfl
            | true => exact absurd (hg.seesC hw hC).1 hwr
          have hfp := hg.wrfp n hmem
          rw [seesH h hwf hc hi hL hr hw n (.inl ⟨hfp, hC⟩)]
          rw [hg.sees hw hC, if_pos hfp] at hT
          rw [hT]
          show none = (R i).S1.h.get n
          cases hS1 : (R i).S1.h.get n with
          | none => rfl
          | some b =>
            obtain ⟨b', h6⟩ := hp.live n b hrng hS1
            rw [hg.sees hw hC, if_pos hfp, hT] at h6
            cases h6
        · rw [if_neg hch]
  · -- what later ones turn
    cases hch : chH R j n with
    | false => rfl
    | true =>
      exfalso
      obtain ⟨hwj, hcase⟩ := Rec.ch_eq.1 hch
      obtain ⟨_, hcase'⟩ := Rec.ch_eq.1 h4
      have hgj := (h.at_ j h2).good
      have hord := h.lt h1 h2
      have hm : (((masksGo ops.toList [])[j]?).getD 0).testBit i = false := by
        cases hm : (((masksGo ops.toList [])[j]?).getD 0).testBit i with
        | false => rfl
        | true => have := hc.mask h j h2 h3 i hm; rw [hL] at this; cases this
      have hcm := (h.at_ j h2).compat i h1 hm hwj
      have hni : n < (R i).S'.next := by
        rcases hcase' with h5 | h5
        · have := hg.fplt n (hg.wrfp n h5); have := hg.le; omega
        · exact h5.2
      rcases hcase with h5 | h5
      · -- j writes what i turned
        unfold compat at hcm
        cases hCj : (R j).oi.isC with
        | true => rw [(hgj.seesC hwj hCj).1] at h5; simp at h5
        | false =>
          cases hC : (R i).oi.isC with
          | true =>
            rw [hCj, hC] at hcm
            simp only [Bool.and_eq_true, List.isEmpty_iff] at hcm
            rw [hcm.1] at h5; simp at h5
          | false =>
            rw [hCj, hC] at hcm
            simp only [Bool.and_eq_true] at hcm
            have hfpj := hgj.wrfp n h5
            rcases hcase' with h6 | h6
            · exact disj_spec hcm.1 h6 hfpj
            · have h7 := List.all_eq_true.1 hcm.2.2 n hfpj
              rw [(inR_eq (lo := (R i).oi.lo) (hi := (R i).oi.hi)).2 (by rw [hg.lohi.1, hg.lohi.2]; exact h6)] at h7
              cases h7
      · omega

theorem DI.step (hP : ProgOK P okS) (hC : CallOK' P call) (h : Walked P okS call ro ops R f S) (hwf : WF S) {ρ0 : Rn} {w0 : World} {ds : List Deferred} {cn : Nat} (hcn : ∀ i, i < ops.size → (R i).S'.next ≤ cn) (hro : ro ≤ S.next) {L : Nat → Bool} {a : Act} {w : World}
    (hD : DI P ro ops R f S ρ0 w0 ds cn L a w) (hc : Closed R ops.size L) {i : Nat} (hi : i < ops.size) (hL : L i = false) (hr : ∀ e, e ∈ (R i).o.after.toList → Region.binds .any e = true → L e.on = true) {Q : Exit → Act → World → Prop} {K : Act → World → Prop}
    (hK : ∀ a' w', DI P ro ops R f S ρ0 w0 ds cn (fun j => if j = i then true else L j) a' w' → K a' w') : wpOp P ops Q i K a w := by
  obtain ⟨ρ, hx, hp, ht, hds, hfree⟩ := hD
  have hat := h.at_ i hi
  have hg := hat.good
  have hsee := seesF h hc hi hL hr
  have hbase := h.base hi
  have htr : ∀ {ρ' : Rn} {cv v : Value} {a' : Act}, TR ρ' a'.tmps (frL R L f ops.size) → VR ρ' cv v → v = (R i).v → TR ρ' (a'.put (R i).o.dst cv).tmps (frL R (fun j => if j = i then true else L j) f ops.size) := by
    intro ρ' cv v a' h1 h2 h3
    subst h3
    refine (h1.put (R i).o.dst h2).congr (by rw [Fr.put_n, frL_n, frL_n]) (fun t => ?_)
    rw [frL_get, Fr.put_get, frL_get, frL_n, pfold_put hi hL]
    · rfl
    · intro j h4 h5 h6 h7
      have hm : (((masksGo ops.toList [])[j]?).getD 0).testBit i = false := by
        cases hm : (((masksGo ops.toList [])[j]?).getD 0).testBit i with
        | false => rfl
        | true => have := hc.mask h j h5 h6 i hm; rw [hL] at this; cases this
      have hap := (Oper.apart_spec ((h.at_ j h5).apart i h4 hm)).2.1
      unfold chF at h7 ⊢
      cases hd : (R j).o.dst with
      | none => rfl
      | some d =>
        cases hdi : (R i).o.dst with
        | none => rw [hdi] at h7; cases h7
        | some d' =>
          rw [hdi] at h7
          simp only [Bool.and_eq_true, decide_eq_true_eq] at h7
          have := hap d' hdi
          simp only
          rw [decide_eq_false (fun e => this (by rw [hd, e, h7.1]))]
          rfl
  unfold wpOp
  rw [hat.op]
  simp only
  rw [awanted_eq ht, awanted_congr hsee, ← hat.want]
  cases hw : (R i).want with
  | true =>
    simp only [if_true]
    left
    obtain ⟨hrun, hnx⟩ := hg.runs hw
    rw [← astep_congr hsee] at hrun
    have hSn : ∀ n b, (R i).T.get n = some b → (R i).S.h.get n = some b := fun n b hT => by
      cases hCc : (R i).oi.isC with
      | false =>
        rw [hg.sees hw hCc] at hT
        split at hT
        · exact hT
        · cases hT
      | true =>
        rw [(hg.seesC hw hCc).2] at hT
        split at hT
        · cases hT
        · exact hT
    have hV : ∀ n b, (R i).T.get n = some b → pfold (chH R) (outH R) L ops.size S.h.get n = some b := fun n b hT => by
      rw [seesH h hwf hc hi hL hr hw n (.inr ⟨b, hT⟩)]; exact hSn n b hT
    have hfi := hfree i hi hL
    rw [← hnx] at hfi
    refine astep_sound' (S := ⟨(R i).T, (R i).S.next⟩) hP hC (hp.wr.weaken hV) ht (hg.roge (by omega)).2 (fun n b hT => h.wf hwf hi (hSn n b hT)) hfi hrun ?_
    intro cv w' ρ' hp1 hv
    have hfr := Post.frameRule hp.wr hV hfi hp1
    rw [merge_eq h hwf hc hi hL hr hw hp1] at hfr
    have hx1 := hp1.ext hfi
    refine hK _ _ ⟨ρ', hx.trans hx1, hp.both ((hfr.roMono (hg.roge (by omega)).1).widen (by omega) hbase (by rw [hnx]; exact hcn i hi)), htr (ht.mono hx1) hv rfl, by rw [← hds]; cases (R i).o.dst <;> rfl, fun j hj hLj => ?_⟩
    by_cases e : j = i
    · simp [e] at hLj
    · simp only [e, if_false] at hLj
      intro n h3 h4
      rw [hp1.dom n (by
        show ¬ ((R i).S.next ≤ n ∧ n < (R i).S1.next)
        rw [hnx]
        rcases Nat.lt_or_gt_of_ne e with h5 | h5
        · have := h.lt h5 hi; omega
        · have := h.lt h5 hj; omega)]
      exact hfree j hj hLj n h3 h4
  | false =>
    simp only [Bool.false_eq_true, if_false]
    refine hK _ _ ⟨ρ, hx, ?_, htr ht (.undef ρ) (hg.undefd hw).symm, by rw [← hds]; cases (R i).o.dst <;> rfl, fun j hj hLj => ?_⟩
    · have : pfold (chH R) (outH R) (fun j => if j = i then true else L j) ops.size S.h.get = pfold (chH R) (outH R) L ops.size S.h.get := by
        funext n
        refine pfold_same (fun j hj hne => ?_)
        by_cases e : j = i
        · subst e; unfold chH Rec.ch; rw [hw]; rfl
        · simp [e] at hne
      rw [this]; exact hp
    · by_cases e : j = i
      · simp [e] at hLj
      · simp only [e, if_false] at hLj
        exact hfree j hj hLj

theorem DI.all (hP : ProgOK P okS) (hC : CallOK' P call) (h : Walked P okS call ro ops R f S) (hwf : WF S) {ρ0 : Rn} {w0 : World} {ds : List Deferred} {cn : Nat} (hcn : ∀ i, i < ops.size → (R i).S'.next ≤ cn) (hro : ro ≤ S.next) {Q : Exit → Act → World → Prop}
    (hQ : ∀ a w, DI P ro ops R f S ρ0 w0 ds cn (fun _ => true) a w → Q .normal a w) : ∀ (fuel : Nat) (listed : Array Bool) (a : Act) (w : World), listed.size = ops.size → (List.range ops.size).countP (fun j => !(listed.getD j false)) ≤ fuel →
    Closed R ops.size (fun j => listed.getD j false) → DI P ro ops R f S ρ0 w0 ds cn (fun j => listed.getD j false) a w → wpAny P .any ops Q fuel listed a w := by
  -- where nothing is ready, all is listed
  have hdone : ∀ (listed : Array Bool) (a : Act) (w : World), listed.size = ops.size → DI P ro ops R f S ρ0 w0 ds cn (fun j => listed.getD j false) a w → Region.ready .any ops listed = [] → Q .normal a w := by
    intro listed a w hsz hD hr
    have hall : ∀ j, j < ops.size → listed.getD j false = true := by
      intro j
      induction j using Nat.strongRecOn with
      | _ j ih =>
        intro hj
        cases hl : listed.getD j false with
        | true => rfl
        | false =>
          exfalso
          have hmem : j ∈ Region.ready .any ops listed := by
            rw [mem_ready]
            refine ⟨?_, (R j).o, (h.at_ j hj).op, fun e he hb => ih e.on ((h.at_ j hj).lex e (by simpa using he) hb) (by have := (h.at_ j hj).lex e (by simpa using he) hb; omega)⟩
            simp only [Array.getD_eq_getD_getElem?, Array.getElem?_eq_getElem (show j < listed.size by omega), Option.getD_some] at hl ⊢
            exact hl
          rw [hr] at hmem; simp at hmem
    refine hQ a w ?_
    obtain ⟨ρ, h1, h2, h3, h4, h5⟩ := hD
    refine ⟨ρ, h1, ?_, ?_, h4, fun j hj hn => by cases hn⟩
    · rw [pfold_all hall] at h2; exact h2
    · refine h3.congr (by rw [frL_n, frL_n]) (fun t => ?_)
      rw [frL_get, frL_get, pfold_all hall]
  intro fuel
  induction fuel with
  | zero =>
    intro listed a w hsz hcnt hc hD
    have hr : Region.ready .any ops listed = [] := by
      cases hr : Region.ready .any ops listed with
      | nil => rfl
      | cons i rest =>
        exfalso
        have hmem : i ∈ Region.ready .any ops listed := by rw [hr]; simp
        obtain ⟨h1, o, ho, _⟩ := mem_ready.1 hmem
        have hi : i < ops.size := (Array.getElem?_eq_some_iff.1 ho).1
        have : 0 < (List.range ops.size).countP (fun j => !(listed.getD j false)) := by
          rw [List.countP_pos_iff]
          refine ⟨i, List.mem_range.2 hi, ?_⟩
          simp only [Array.getD_eq_getD_getElem?, Array.getElem?_eq_getElem (show i < listed.size by omega), Option.getD_some] at h1 ⊢
          rw [h1]; rfl
        omega
    exact ⟨hr, hdone listed a w hsz hD hr⟩
  | succ fuel ih =>
    intro listed a w hsz hcnt hc hD
    refine ⟨fun hr => hdone listed a w hsz hD hr, fun i hmem => ?_⟩
    obtain ⟨h1, o, ho, h2⟩ := mem_ready.1 hmem
    have hi : i < ops.size := (Array.getElem?_eq_some_iff.1 ho).1
    have hoi : (R i).o = o := by have := (h.at_ i hi).op; rw [ho] at this; simpa using this.symm
    have hL : listed.getD i false = false := by
      simp only [Array.getD_eq_getD_getElem?, Array.getElem?_eq_getElem (show i < listed.size by omega), Option.getD_some] at h1 ⊢
      exact h1
    have hset : ∀ j, (listed.setIfInBounds i true).getD j false = (if j = i then true else listed.getD j false) := fun j => by
      by_cases e : j = i
      · subst e
        simp [Array.getD_eq_getD_getElem?, show j < listed.size by omega]
      · rw [if_neg e, getD_set_ne false (fun h => e h.symm)]
    refine DI.step hP hC h hwf hcn hro hD hc hi hL (fun e he hb => h2 e (by rw [hoi] at he; simpa using he) hb) (fun a' w' hD' => ?_)
    refine ih _ a' w' (by simpa using hsz) ?_ ?_ ?_
    · have hlt := countP_lt (l := List.range ops.size) (p := fun j => !(listed.getD j false)) (q := fun j => !((listed.setIfInBounds i true).getD j false)) (i := i)
        (fun x _ hx => by
          simp only [hset] at hx
          by_cases e : x = i
          · simp [e] at hx
          · simpa [e] using hx) (List.mem_range.2 hi) (by simp only [hL]; rfl) (by simp only [hset]; simp)
      omega
    · intro j hj hLj e he hb
      simp only [hset] at hLj ⊢
      by_cases ej : j = i
      · subst ej
        rw [hoi] at he
        have := h2 e (by simpa using he) hb
        by_cases e2 : e.on = j
        · simp [e2]
        · simpa [e2] using this
      · simp only [ej, if_false] at hLj
        have := hc j hj hLj e he hb
        by_cases e2 : e.on = i
        · simp [e2]
        · simpa [e2] using this
    · have : (fun j => (listed.setIfInBounds i true).getD j false) = (fun j => if j = i then true else listed.getD j false) := funext hset
      rw [this]; exact hD'

theorem adraw_sound (hP : ProgOK P okS) (hC : CallOK' P call) {f' : Fr} {S' : St} (h : adraw P okS call ro ops f S = some (f', S')) {ρ : Rn} {a : Act} {w : World} (hw : WR P ρ w S.h.get) (ht : TR ρ a.tmps f) (hwf : WF S) (hro : ro ≤ S.next) (hf : FreeOn ρ S.next S'.next)
    {Q : Exit → Act → World → Prop} (hQ : ∀ a' w' ρ', Ext ρ ρ' → Post P ro ρ S.h.get S.next w ρ' S'.h.get S'.next w' → TR ρ' a'.tmps f' → a'.defers = a.defers → Q .normal a' w') :
    S.next ≤ S'.next ∧ wpAny P .any ops Q ops.size (Array.replicate ops.size false) a w := by
  unfold adraw at h
  cases hns : Region.noSelect ops with
  | false => simp [hns] at h
  | true =>
    simp only [hns, cond_true] at h
    obtain ⟨R, _, h2, h3, h4, h5, h6⟩ := adrawGo_recs (P := P) (okS := okS) (call := call) (ro := ro) (ops := ops) (masks := masksGo ops.toList []) ops.toList 0 f f' S S'
      (fun _ => ⟨default, f, S, false, undef, ro, .nil, S, S, ⟨false, [], [], 0, 0⟩⟩) (fun i => by simp) (by simpa using h)
    simp only [Nat.zero_add, Array.length_toList] at h2 h3 h4 h5 h6
    have hW : Walked P okS call ro ops R f S := ⟨fun i hi => h2 i (Nat.zero_le _) hi, h3, fun i hi => h4 i (Nat.zero_le _) hi⟩
    have hlast : ∀ i, i < ops.size → (R i).S'.next ≤ S'.next := fun i hi => by
      obtain ⟨_, e⟩ := h6 (by omega)
      rw [e]
      by_cases e2 : i = ops.size - 1
      · rw [← e2]; exact Nat.le_refl _
      · have h7 := hW.lt (i := i) (j := ops.size - 1) (by omega) (by omega)
        have h8 := (hW.at_ (ops.size - 1) (by omega)).good.le
        omega
    have hcn : S.next ≤ S'.next := by
      by_cases e : ops.size = 0
      · rw [(h5 e).2]; exact Nat.le_refl _
      · have h7 := hW.base (i := 0) (by omega)
        have h8 := (hW.at_ 0 (by omega)).good.le
        have h9 := hlast 0 (by omega)
        omega
    refine ⟨hcn, DI.all hP hC hW hwf (ρ0 := ρ) (w0 := w) (ds := a.defers) (cn := S'.next) hlast hro (fun a' w' hD => ?_) ops.size _ a w (by simp) ?_ ?_ ?_⟩
    · obtain ⟨ρ', hx, hp, ht', hds, _⟩ := hD
      have hF : f' = frL R (fun _ => true) f ops.size ∨ (f'.n = f.n ∧ ∀ t, (frL R (fun _ => true) f ops.size).get t = f'.get t) := by
        right
        by_cases e : ops.size = 0
        · rw [(h5 e).1, e]; exact ⟨rfl, fun t => rfl⟩
        · obtain ⟨e1, _⟩ := h6 (by omega)
          refine ⟨by rw [e1, Fr.put_n]; exact hW.fn _ (by omega), fun t => ?_⟩
          rw [e1, frL_get, Fr.put_get, hW.frame t _ (by omega), hW.fn _ (by omega)]
          obtain ⟨m, hm⟩ : ∃ m, ops.size = m + 1 := ⟨ops.size - 1, by omega⟩
          rw [hm]
          simp only [Nat.add_sub_cancel, pfold, Bool.true_and]
          rfl
      have hH : pfold (chH R) (outH R) (fun _ => true) ops.size S.h.get = S'.h.get := by
        by_cases e : ops.size = 0
        · rw [(h5 e).2, e]; rfl
        · obtain ⟨_, e1⟩ := h6 (by omega)
          funext n
          rw [e1, (hW.at_ (ops.size - 1) (by omega)).good.heap, hW.heap n _ (by omega)]
          obtain ⟨m, hm⟩ : ∃ m, ops.size = m + 1 := ⟨ops.size - 1, by omega⟩
          rw [hm]
          simp only [Nat.add_sub_cancel, pfold, Bool.true_and]
          rfl
      rw [hH] at hp
      refine hQ a' w' ρ' hx hp ?_ hds
      rcases hF with e | ⟨e1, e2⟩
      · rw [e]; exact ht'
      · exact ht'.congr (by rw [frL_n]; exact e1.symm) e2
    · exact Nat.le_trans List.countP_le_length (by simp)
    · intro j hj hl
      simp [Array.getD_eq_getD_getElem?, Array.getElem?_replicate, hj] at hl
    · have hno : ∀ j, (Array.replicate ops.size false).getD j false = false := fun j => by
        simp only [Array.getD_eq_getD_getElem?, Array.getElem?_replicate]
        split <;> rfl
      have : (fun j => (Array.replicate ops.size false).getD j false) = (fun _ => false) := funext hno
      rw [this]
      refine ⟨ρ, Ext.refl ρ, ?_, ?_, rfl, fun j hj _ => hf.sub (hW.base hj) (hlast j hj)⟩
      · rw [pfold_none]
        exact (Post.refl hw).widen hro (Nat.le_refl _) hcn
      · refine ht.congr (by rw [frL_n]) (fun t => ?_)
        rw [frL_get, pfold_none]

end
end Go.Ab

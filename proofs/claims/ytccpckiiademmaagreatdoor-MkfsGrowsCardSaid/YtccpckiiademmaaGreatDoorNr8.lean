/-
  SYMBOLIC RUNS, part 8: what is shown of the conditions is true of the runs.
-/
import Derived.Test.YtccpckiiademmaaGreatDoorNr7
set_option linter.unusedSimpArgs false
set_option linter.unusedVariables false
namespace Go.Ab

section
variable {E : Env} {Q : AX → Fr → St → Prop} {R : Value → St → Prop}

theorem setMany_nil (h t : Tr Blk) : setMany h t [] = h := rfl

theorem ndrawGo_sound (hE : E.OK) {ops : Array Oper} {masks : List Nat} : ∀ {l : List Oper} {f : Fr} {K : Tab} {S : St} {prev : List Rec} {nprev : List NRec} {Nm : Nat → Nat → Prop} {k : Fr → Tab → NT} {tp : Tp},
    TOK E.ro K S → Delta E.K0 E.S0 K S → Hist Nm K S → RL Nm prev nprev → (∀ (r : Rec) (x : NRec), r ∈ prev → True) → (∀ x : NRec, x ∈ nprev → x.solo = false → x.klo ≤ tlen K) → (∀ (i : Nat) (r : Rec) (x : NRec), prev[i]? = some r → nprev[i]? = some x → x.solo = false → r.oi.hi ≤ S.next) →
    VC E Q R (ndrawGo E.P E.kn E.ps ops masks l f K nprev k) tp →
    ∃ f' S' K' tp', Ev (fun m => adrawGo E.P E.kn (acall E.P E.kn E.summ m) E.ro ops masks l f S prev = some (f', S')) ∧ TOK E.ro K' S' ∧ Delta K S K' S' ∧ VC E Q R (k f' K') tp'
  | [], f, K, S, prev, nprev, Nm, k, tp, hK, hD, hN, hL, _, _, _, h => ⟨f, S, K, tp, .of fun m => rfl, hK, Delta.refl K S, h⟩
  | o :: rest, f, K, S, prev, nprev, Nm, k, tp, hK, hD, hN, hL, h0, hk, hh, h => by
    have hlen := hL.length
    simp only [ndrawGo] at h
    split at h
    · exact h.elim
    rename_i hstat
    have hU : RL Nm (unord ((masks[prev.length]?).getD 0) 0 prev) (nunord ((masks[nprev.length]?).getD 0) 0 nprev) := by rw [hlen]; exact hL.unord
    have hstat' : (lexOK prev.length o && (guardOK o && (unord ((masks[prev.length]?).getD 0) 0 prev).all fun x => x.o.apart ops o)) = true := by
      rw [hlen]
      simp only [Bool.and_eq_true] at hstat ⊢
      refine ⟨hstat.1, hstat.2.1, ?_⟩
      have := hU.all (p := fun r => r.o.apart ops o) (q := fun x => x.o.apart ops o) (fun r x hr hq => by rw [hr.1]; exact hq) hstat.2.2
      rwa [hlen] at this
    -- records grow
    have hgrow : ∀ {K' : Tab} {S' : St} {r : Rec} {x : NRec}, Hist (growNm Nm K K') K' S' → S.next ≤ S'.next → tlen K ≤ tlen K' → (∀ i n, tlen K ≤ i → growNm Nm K K' i n → S.next ≤ n) → RRel (growNm Nm K K') r x → RL (growNm Nm K K') (prev ++ [r]) (nprev ++ [x]) := fun {K' S' r x} hN' h1 h2 h3 hr => by
      refine RL.snoc hr ?_
      have : ∀ {rs : List Rec} {xs : List NRec}, RL Nm rs xs → (∀ (i : Nat) (r : Rec) (x : NRec), rs[i]? = some r → xs[i]? = some x → x.solo = false → x.klo ≤ tlen K ∧ r.oi.hi ≤ S.next) → RL (growNm Nm K K') rs xs := by
        intro rs
        induction rs with
        | nil => intro xs hl _; cases xs with
          | nil => trivial
          | cons x xs => exact hl.elim
        | cons r rs ih =>
          intro xs hl hc
          cases xs with
          | nil => exact hl.elim
          | cons x xs =>
            refine ⟨hl.1.grow (b := tlen K) (c := S.next) (fun i n hn => .inl hn) (fun i n hn => ?_) (fun hs => hc 0 r x rfl rfl hs), ih hl.2 (fun i r x hr hx => hc (i + 1) r x (by simpa using hr) (by simpa using hx))⟩
            rcases hn with hn | hn
            · exact .inl hn
            · exact .inr ⟨hn.1, h3 i n hn.1 (.inr hn)⟩
      exact this hL (fun i r x hr hx hs => ⟨hk x (List.mem_of_getElem? hx) hs, hh i r x hr hx hs⟩)
    have hkk : ∀ {K' : Tab} {x : NRec}, tlen K ≤ tlen K' → x.klo ≤ tlen K' → ∀ y, y ∈ nprev ++ [x] → y.solo = false → y.klo ≤ tlen K' := fun {K' x} h1 h2 y hy hs => by
      rcases List.mem_append.1 hy with hy | hy
      · exact Nat.le_trans (hk y hy hs) h1
      · simp only [List.mem_singleton] at hy; subst hy; exact h2
    have hhh : ∀ {S' : St} {r : Rec} {x : NRec}, S.next ≤ S'.next → (x.solo = false → r.oi.hi ≤ S'.next) → ∀ (i : Nat) (r' : Rec) (x' : NRec), (prev ++ [r])[i]? = some r' → (nprev ++ [x])[i]? = some x' → x'.solo = false → r'.oi.hi ≤ S'.next := fun {S' r x} h1 h2 i r' x' hr hx hs => by
      by_cases hi : i < prev.length
      · rw [List.getElem?_append_left hi] at hr
        rw [List.getElem?_append_left (by omega)] at hx
        exact Nat.le_trans (hh i r' x' hr hx hs) h1
      · rw [List.getElem?_append_right (by omega)] at hr
        rw [List.getElem?_append_right (by omega)] at hx
        have h3 : i - prev.length = 0 := by
          cases hq : i - prev.length with
          | zero => rfl
          | succ q => rw [hq] at hr; simp at hr
        rw [h3] at hr
        rw [← hlen, h3] at hx
        simp only [List.getElem?_cons_zero, Option.some.injEq] at hr hx
        subst hr; subst hx
        exact h2 hs
    split at h
    · -- not wanted
      rename_i hw
      rw [fforce_eq] at h
      obtain ⟨f', S', K', tp', h1, h2, h3, h4⟩ := ndrawGo_sound hE (prev := prev ++ [⟨o, f, S, false, undef, E.ro, .nil, ⟨.nil, S.next⟩, S, ⟨false, [], [], S.next, S.next⟩⟩]) hK hD hN
        (hL.snoc (r := ⟨o, f, S, false, undef, E.ro, .nil, ⟨.nil, S.next⟩, S, ⟨false, [], [], S.next, S.next⟩⟩) (x := ⟨o, false, false, [], false, tlen K, tlen K⟩) ⟨rfl, fun _ => ⟨rfl, fun n hn => (by cases hn), fun n hn => (by cases hn), fun i n hn _ => (hN.lt i n hn).2, fun i n hn hi => by have := (hN.lt i n hn).1; simp only at hi; omega, fun _ _ => rfl⟩⟩)
        (fun _ _ _ => trivial) (hkk (Nat.le_refl _) (Nat.le_refl _)) (hhh (Nat.le_refl _) (fun _ => Nat.le_refl _)) h
      refine ⟨f', S', K', tp', h1.mono fun m hm => ?_, h2, h3, h4⟩
      simp only [adrawGo, mkRec]
      rw [hstat', hw]
      simp only [cond_true, cond_false]
      exact hm
    · rename_i hw
      split at h
      · rename_i hcall
        split at h
        · -- a call alone
          rename_i hsolo
          simp only [Bool.and_eq_true] at hsolo
          obtain ⟨v, S1, K1, tp1, h1, h2, h3, h4⟩ := nstep_sound hE hK hD h
          rw [tforce_eq] at h4
          obtain ⟨tp2, h5⟩ := vc_split h4
          rw [fforce_eq] at h5
          obtain ⟨f', S', K', tp', h6, h7, h8, h9⟩ := ndrawGo_sound hE (prev := prev ++ [⟨o, f, S, true, v, E.ro, S.h, S1, S1, ⟨false, namesOf 0 S.next, namesOf 0 S.next, S.next, S1.next⟩⟩]) (Nm := nowNm K1) h2 (hD.trans h3) (Hist.now h2)
            (RL.snoc (r := ⟨o, f, S, true, v, E.ro, S.h, S1, S1, ⟨false, namesOf 0 S.next, namesOf 0 S.next, S.next, S1.next⟩⟩) (x := ⟨o, false, true, [], true, tlen K, tlen K1⟩) ⟨rfl, fun e => by cases e⟩ hL.solo)
            (fun _ _ _ => trivial) (fun x hx hs => by
              rcases List.mem_append.1 hx with hx | hx
              · obtain ⟨y, _, rfl⟩ := List.mem_map.1 hx; cases hs
              · simp only [List.mem_singleton] at hx; subst hx; cases hs) (fun i r x hr hx hs => by
              exfalso
              have hx := List.mem_of_getElem? hx
              rcases List.mem_append.1 hx with hx | hx
              · obtain ⟨y, _, rfl⟩ := List.mem_map.1 hx; cases hs
              · simp only [List.mem_singleton] at hx; subst hx; cases hs) h5
          refine ⟨f', S', K', tp', (h1.and h6).mono fun m hm => ?_, h7, h3.trans h8, h9⟩
          have hun : (unord ((masks[prev.length]?).getD 0) 0 prev) = [] := by
            have := hU.isEmpty
            rw [hsolo.2] at this
            simpa using this
          have hb1 := bnd_of S.h S.next hK.wf
          have hb2 := bnd_of S1.h S1.next h2.wf
          simp only [adrawGo, mkRec]
          rw [hstat', hw]
          simp only [cond_true, hun, List.all_nil]
          simp only [mkStep, hcall, cond_true, hlen, hsolo.1, List.isEmpty_nil, hb1, Bool.and_self, hm.1, ble_eq, h3.le, decide_true, hb2]
          exact hm.2
        · -- a call that may not write
          rename_i hsolo
          split at h
          · rename_i hcomp
            have her : erasedOf (unord ((masks[prev.length]?).getD 0) 0 prev) = [] := erased_nil (y := ⟨o, true, false, [], false, tlen K, tlen K⟩) rfl hU hcomp
            have hsolo' : ((masks.drop (prev.length + 1)).all (·.testBit prev.length) && ((unord ((masks[prev.length]?).getD 0) 0 prev).isEmpty && bnd S.h S.next)) = false := by
              rw [hU.isEmpty, hlen, ← Bool.and_assoc, hsolo, Bool.false_and]
            -- the call's end
            have hend : ∃ v S1 N tp', Ev (fun m => astep E.P E.kn (acall E.P E.kn E.summ m) S.next f S o = some (v, S1)) ∧ News S N S1 ∧ VC E Q R (tforce (tapp K N) fun K1 => nsplit v fun u => fforce (f.put o.dst u) fun f' => ndrawGo E.P E.kn E.ps ops masks rest f' K1 (nprev ++ [⟨o, true, false, [], false, tlen K, tlen K1⟩]) k) tp' := by
              rcases callOp_sound hcall h with ⟨v, tp', h1, h2⟩ | ⟨g, args, p, v, tp', h1, h2, h3, h4⟩ | ⟨g, args, tp', h1, h2, h3⟩
              · exact ⟨v, S, [], tp', .of fun m => by unfold astep; rw [h1], news_nil hK.wf, by rw [tapp_nil]; exact h2⟩
              · exact ⟨v, S, [], tp', .of fun m => by unfold astep; rw [h1]; exact acall_pure hE h2 h3 m _ S, news_nil hK.wf, by rw [tapp_nil]; exact h4⟩
              · cases tp' <;> simp only [VC] at h3
                rename_i shape t
                obtain ⟨a, S1, h4, h5, h6⟩ := h3 S hK hD
                exact ⟨_, S1, _, _, h4.mono fun m hm => by unfold astep; rw [h1]; exact hm, h5, h6⟩
            obtain ⟨v, S1, N, tp1, h1, h2, h3⟩ := hend
            rw [tforce_eq] at h3
            obtain ⟨tp2, h4⟩ := vc_split h3
            rw [fforce_eq] at h4
            obtain ⟨h5, h6, h7⟩ := hK.news h2
            obtain ⟨g1, g2, g3, g4⟩ := hN.grow h5 (.inr ⟨N, rfl, h7⟩)
            obtain ⟨f', S', K', tp', h8, h9, h10, h11⟩ := ndrawGo_sound hE (prev := prev ++ [⟨o, f, S, true, v, S.next, eraseMany S.h [], S1, ⟨setMany S.h S1.h (namesOf S.next S1.next), S1.next⟩, ⟨true, [], [], S.next, S1.next⟩⟩]) h5 (hD.trans h6) g1
              (hgrow (r := ⟨o, f, S, true, v, S.next, eraseMany S.h [], S1, ⟨setMany S.h S1.h (namesOf S.next S1.next), S1.next⟩, ⟨true, [], [], S.next, S1.next⟩⟩) (x := ⟨o, true, false, [], false, tlen K, tlen (tapp K N)⟩) g1 g2 g3 g4 ⟨rfl, fun _ => ⟨rfl, fun n hn => (by cases hn), fun n hn => (by cases hn), fun i n hn hi => by
                rcases hn with hn | hn
                · exact (hN.lt i n hn).2
                · have := hn.1; simp only at hi; omega, fun i n hn hi => by
                have := (g1.lt i n hn).1; simp only at hi; omega, fun e => by cases e⟩⟩)
              (fun _ _ _ => trivial) (hkk g3 g3) (hhh g2 (fun _ => Nat.le_refl _)) h4
            refine ⟨f', S', K', tp', (h1.and h8).mono fun m hm => ?_, h9, h6.trans h10, h11⟩
            have hcompat : ((unord ((masks[prev.length]?).getD 0) 0 prev).all fun x => compat x.oi ⟨true, [], [], S.next, S1.next⟩) = true := by
              refine hU.all (q := fun x => ncompat x ⟨o, true, false, [], false, tlen K, tlen K⟩) (fun r x hr hq => ?_) hcomp
              exact compat_of hN (s := ⟨o, f, S, true, v, S.next, eraseMany S.h [], S1, ⟨setMany S.h S1.h (namesOf S.next S1.next), S1.next⟩, ⟨true, [], [], S.next, S1.next⟩⟩) hr ⟨rfl, fun _ => ⟨rfl, fun n hn => (by cases hn), fun n hn => (by cases hn), fun i n hn _ => (hN.lt i n hn).2, fun i n hn hi => by have := (hN.lt i n hn).1; simp only at hi; omega, fun e => by cases e⟩⟩ rfl hq
            simp only [adrawGo, mkRec]
            rw [hstat', hw]
            have hm1 : astep E.P E.kn (acall E.P E.kn E.summ m) S.next f ⟨eraseMany S.h [], S.next⟩ o = some (v, S1) := hm.1
            have hle : Nat.ble S.next S1.next = true := by rw [ble_eq]; simp [h2.le]
            simp only [cond_true, mkStep, hcall, hsolo', cond_false, her, hm1, hle, hcompat]
            exact hm.2
          · exact h.elim
      · -- an operation
        rename_i hcall
        obtain ⟨names, w, hfp⟩ : ∃ names w, opFp f o = (names, w) := ⟨_, _, rfl⟩
        rw [hfp] at h
        simp only at h
        obtain ⟨fp, tp1, h1, h2, h3⟩ := vc_fps h
        have hpart := hK.part (w := w) (ns := names) h2
        have hto : ∃ v S1 K1 tp', aop E.P E.kn (cond w E.ro S.next) f ⟨setMany .nil S.h names, S.next⟩ o = some (.val v S1) ∧ TOK (cond w E.ro S.next) K1 S1 ∧ Step (nres K fp w 0) ⟨setMany .nil S.h names, S.next⟩ K1 S1 ∧
            VC E Q R (match (nunord ((masks[nprev.length]?).getD 0) 0 nprev).all (fun x => ncompat x ⟨o, false, false, fp, w, tlen K, tlen K1⟩) with
              | true => tforce (nmerge K K1 fp w 0) fun K2 => nsplit v fun u => fforce (f.put o.dst u) fun f' => ndrawGo E.P E.kn E.ps ops masks rest f' K2 (nprev ++ [⟨o, false, false, fp, w, tlen K, tlen K1⟩]) k
              | false => .fail) tp' := by
          rcases nop_sound hpart h3 with ⟨v, S1, K1, tp', g1, g2, g3, g4⟩ | ⟨g, args, p, v, tp', g1, _⟩ | ⟨g, args, tp', g1, _⟩
          · exact ⟨v, S1, K1, tp', g1, g2, g3, g4⟩
          · rw [isCall_of g1] at hcall; cases hcall
          · rw [isCall_of g1] at hcall; cases hcall
        obtain ⟨v, S1, K1, tp2, h4, h5, h6, h7⟩ := hto
        split at h7
        · rename_i hcomp
          rw [tforce_eq] at h7
          obtain ⟨tp3, h8⟩ := vc_split h7
          rw [fforce_eq] at h8
          obtain ⟨h9, h10⟩ := hK.merge h1 h2 h5 h6
          have hle : S.next ≤ S1.next := h6.le
          obtain ⟨g1, g2, g3, g4⟩ := hN.grow h9 (.inl h10)
          have hk1 : tlen (nmerge K K1 fp w 0) = tlen K1 := tlen_nmerge fp w K K1 0 (by have := h6.len; rwa [tlen_nres] at this)
          have hcnt : S1.next + tlen K = S.next + tlen K1 := by have := h6.cnt; rwa [tlen_nres] at this
          have hlt : names.all (Nat.blt · S.next) = true := by
            rw [List.all_eq_true]
            intro n hn
            obtain ⟨i, _, e, he, rfl⟩ := h1 n hn
            rw [blt_eq, decide_eq_true_eq]; exact (hK.at_ i e he).2
          -- the record
          have hrel : ∀ (Nm' : Nat → Nat → Prop) (r : Rec), (∀ i n, Nm i n → Nm' i n) → (∀ i n, Nm' i n → i < tlen K → n < S.next) → (∀ i n, Nm' i n → tlen K1 ≤ i → S1.next ≤ n) → r.o = o → r.oi = ⟨false, names, cond w names [], S.next, S1.next⟩ → RRel Nm' r ⟨o, false, false, fp, w, tlen K, tlen K1⟩ := fun Nm' r a1 a2 a3 a4 a5 => by
            refine ⟨a4, fun _ => ?_⟩
            rw [a5]
            refine ⟨rfl, fun n hn => ?_, fun n hn => ?_, a2, a3, fun _ he => ?_⟩
            · obtain ⟨i, hi, e, he, rfl⟩ := h1 n hn
              exact ⟨i, hi, a1 _ _ (hN.cur i e he)⟩
            · cases w with
              | true => exact ⟨rfl, hn⟩
              | false => cases hn
            · simp only at he ⊢; omega
          have hcompat : ((unord ((masks[prev.length]?).getD 0) 0 prev).all fun x => compat x.oi ⟨false, names, cond w names [], S.next, S1.next⟩) = true := by
            refine hU.all (q := fun x => ncompat x ⟨o, false, false, fp, w, tlen K, tlen K1⟩) (fun r x hr hq => ?_) hcomp
            exact compat_of hN (s := ⟨o, f, S, true, v, E.ro, .nil, S1, S1, ⟨false, names, cond w names [], S.next, S1.next⟩⟩) hr (hrel Nm _ (fun _ _ h => h) (fun i n hn _ => (hN.lt i n hn).2) (fun i n hn hi => by have := (hN.lt i n hn).1; have := h6.len; rw [tlen_nres] at this; omega) rfl rfl) rfl hq
          have hnd : ∀ (r : Rec), r.o = o → r.oi = ⟨false, names, cond w names [], S.next, S1.next⟩ → ∃ f' S' K' tp', Ev (fun m => adrawGo E.P E.kn (acall E.P E.kn E.summ m) E.ro ops masks rest (f.put o.dst v) ⟨setMany S.h S1.h (cond w (names ++ namesOf S.next S1.next) (namesOf S.next S1.next)), S1.next⟩ (prev ++ [r]) = some (f', S')) ∧ TOK E.ro K' S' ∧ Delta (nmerge K K1 fp w 0) ⟨setMany S.h S1.h (cond w (names ++ namesOf S.next S1.next) (namesOf S.next S1.next)), S1.next⟩ K' S' ∧ VC E Q R (k f' K') tp' := fun r hr1 hr2 =>
            ndrawGo_sound hE h9 (hD.trans h10.delta) g1 (hgrow g1 g2 g3 g4 (hrel _ r (fun _ _ h => .inl h) (fun i n hn hi => by
              rcases hn with hn | hn
              · exact (hN.lt i n hn).2
              · have := hn.1; omega) (fun i n hn hi => by have := (g1.lt i n hn).1; omega) hr1 hr2)) (fun _ _ _ => trivial) (hkk g3 (by simp only; omega)) (hhh g2 (fun _ => by rw [hr2]; exact Nat.le_refl _)) h8
          cases w with
          | true =>
            obtain ⟨f', S', K', tp', h11, h12, h13, h14⟩ := hnd ⟨o, f, S, true, v, E.ro, setMany .nil S.h names, S1, ⟨setMany S.h S1.h (names ++ namesOf S.next S1.next), S1.next⟩, ⟨false, names, names, S.next, S1.next⟩⟩ rfl rfl
            refine ⟨f', S', K', tp', h11.mono fun m hm => ?_, h12, h10.delta.trans h13, h14⟩
            simp only [adrawGo, mkRec]
            rw [hstat', hw]
            have hm1 : astep E.P E.kn (acall E.P E.kn E.summ m) E.ro f ⟨setMany .nil S.h names, S.next⟩ o = some (v, S1) := by unfold astep; simp only [cond_true] at h4; rw [h4]
            have hle' : Nat.ble S.next S1.next = true := by rw [ble_eq]; simp [hle]
            simp only [cond_true] at hcompat hm
            simp only [cond_true, mkStep, hcall, cond_false, hfp, hm1, hle', hlt, Bool.and_self, hcompat]
            exact hm
          | false =>
            obtain ⟨f', S', K', tp', h11, h12, h13, h14⟩ := hnd ⟨o, f, S, true, v, S.next, setMany .nil S.h names, S1, ⟨setMany S.h S1.h (namesOf S.next S1.next), S1.next⟩, ⟨false, names, [], S.next, S1.next⟩⟩ rfl rfl
            refine ⟨f', S', K', tp', h11.mono fun m hm => ?_, h12, h10.delta.trans h13, h14⟩
            simp only [adrawGo, mkRec]
            rw [hstat', hw]
            have hm1 : astep E.P E.kn (acall E.P E.kn E.summ m) S.next f ⟨setMany .nil S.h names, S.next⟩ o = some (v, S1) := by unfold astep; simp only [cond_false] at h4; rw [h4]
            have hle' : Nat.ble S.next S1.next = true := by rw [ble_eq]; simp [hle]
            simp only [cond_false] at hcompat hm
            simp only [cond_true, mkStep, hcall, cond_false, hfp, hm1, hle', hlt, Bool.and_self, hcompat]
            exact hm
        · exact h7.elim

theorem nrun_sound (hE : E.OK) : ∀ {n : Nat} {c : Code} {f : Fr} {K : Tab} {S : St} {k : AX → Fr → Tab → NT} {tp : Tp}, TOK E.ro K S → Delta E.K0 E.S0 K S → VC E Q R (nrun E.P E.kn E.ps n c f K k) tp →
    ∃ ex f' S' K' tp', RRun E.P E.kn E.summ E.ro c f S ex f' S' ∧ TOK E.ro K' S' ∧ Delta K S K' S' ∧ VC E Q R (k ex f' K') tp'
  | 0, c, f, K, S, k, tp, hK, hD, h => h.elim
  | n + 1, c, f, K, S, k, tp, hK, hD, h => by
    have lift : ∀ {c : Code} {f : Fr} {S : St} {ex : AX} {f' : Fr} {S' : St}, Ev (fun m => acodeStep E.P E.kn (acall E.P E.kn E.summ m) (arun E.P E.kn E.summ m) E.ro c f S = some (ex, f', S')) → RRun E.P E.kn E.summ E.ro c f S ex f' S' := fun h => Ev.succ h
    cases c with
    | skip => exact ⟨.normal, f, S, K, tp, lift (.of fun m => rfl), hK, Delta.refl K S, h⟩
    | region id ops draw =>
      simp only [nrun] at h
      cases draw with
      | true =>
        simp only at h
        unfold ndraw at h
        cases hs : Region.noSelect ops with
        | false => rw [hs] at h; exact h.elim
        | true =>
          rw [hs] at h
          obtain ⟨f', S', K', tp', h1, h2, h3, h4⟩ := ndrawGo_sound hE (prev := []) (nprev := []) (Nm := nowNm K) hK hD (Hist.now hK) trivial (fun _ _ _ => trivial) (fun x hx => by cases hx) (fun i r x hr => by simp at hr) h
          refine ⟨.normal, f', S', K', tp', lift (h1.mono fun m hm => ?_), h2, h3, h4⟩
          show cRegion E.P E.kn _ E.ro ops true f S = _
          simp only [cRegion, adraw, hs, cond_true, hm, nrm, ble_eq, h3.le, decide_true]
      | false =>
        simp only at h
        obtain ⟨f', S', K', tp', h1, h2, h3, h4⟩ := nops_sound hE hK hD h
        refine ⟨.normal, f', S', K', tp', lift (h1.mono fun m hm => ?_), h2, h3, h4⟩
        show cRegion E.P E.kn _ E.ro ops false f S = _
        simp only [cRegion, hm, nrm, ble_eq, h3.le, decide_true, cond_true]
    | seq a b =>
      simp only [nrun] at h
      obtain ⟨ex, f1, S1, K1, tp1, h1, h2, h3, h4⟩ := nrun_sound hE hK hD h
      cases ex with
      | normal =>
        simp only at h4
        obtain ⟨ex, f2, S2, K2, tp2, h5, h6, h7, h8⟩ := nrun_sound hE h2 (hD.trans h3) h4
        refine ⟨ex, f2, S2, K2, tp2, lift ((h1.and h5).mono fun m hm => ?_), h6, h3.trans h7, h8⟩
        show cSeq _ E.ro a b f S = _
        simp only [cSeq, hm.1, hm.2]
      | exit i => exact ⟨_, f1, S1, K1, tp1, lift (h1.mono fun m hm => by show cSeq _ E.ro a b f S = _; simp only [cSeq, hm]), h2, h3, h4⟩
      | ret => exact ⟨_, f1, S1, K1, tp1, lift (h1.mono fun m hm => by show cSeq _ E.ro a b f S = _; simp only [cSeq, hm]), h2, h3, h4⟩
    | cond x a b =>
      simp only [nrun] at h
      split at h
      · rename_i c hx
        cases c with
        | true =>
          simp only at h
          obtain ⟨ex, f1, S1, K1, tp1, h1, h2, h3, h4⟩ := nrun_sound hE hK hD h
          exact ⟨ex, f1, S1, K1, tp1, lift (h1.mono fun m hm => by show cCond _ E.ro x a b f S = _; simp only [cCond, hx, hm]), h2, h3, h4⟩
        | false =>
          simp only at h
          obtain ⟨ex, f1, S1, K1, tp1, h1, h2, h3, h4⟩ := nrun_sound hE hK hD h
          exact ⟨ex, f1, S1, K1, tp1, lift (h1.mono fun m hm => by show cCond _ E.ro x a b f S = _; simp only [cCond, hx, hm]), h2, h3, h4⟩
      · exact h.elim
    | block id b =>
      simp only [nrun] at h
      obtain ⟨ex, f1, S1, K1, tp1, h1, h2, h3, h4⟩ := nrun_sound hE hK hD h
      cases ex with
      | exit i =>
        simp only at h4
        cases hi : Nat.beq i id with
        | true =>
          rw [hi] at h4
          exact ⟨_, f1, S1, K1, tp1, lift (h1.mono fun m hm => by show cBlock _ E.ro id b f S = _; simp only [cBlock, hm, hi, cond_true]), h2, h3, h4⟩
        | false =>
          rw [hi] at h4
          exact ⟨_, f1, S1, K1, tp1, lift (h1.mono fun m hm => by show cBlock _ E.ro id b f S = _; simp only [cBlock, hm, hi, cond_false]), h2, h3, h4⟩
      | normal => exact ⟨_, f1, S1, K1, tp1, lift (h1.mono fun m hm => by show cBlock _ E.ro id b f S = _; simp only [cBlock, hm]), h2, h3, h4⟩
      | ret => exact ⟨_, f1, S1, K1, tp1, lift (h1.mono fun m hm => by show cBlock _ E.ro id b f S = _; simp only [cBlock, hm]), h2, h3, h4⟩
    | loop b =>
      simp only [nrun] at h
      cases tp <;> simp only [VC] at h
      rename_i sl shape t
      obtain ⟨a, S1, h1, h2, h3, _, h4⟩ := h S f hK hD rfl rfl
      exact ⟨_, _, S1, _, _, lift h1, h2, h3, h4⟩
    | exit id => exact ⟨.exit id, f, S, K, tp, lift (.of fun m => rfl), hK, Delta.refl K S, h⟩
    | ret => exact ⟨.ret, f, S, K, tp, lift (.of fun m => rfl), hK, Delta.refl K S, h⟩
    | _ => exact h.elim

theorem nresults_sound {P : Program} {ro : Nat} {K : Tab} {S : St} {f : Fr} (hK : TOK ro K S) : ∀ {rs : List ResultVar} {k : List Value → NT} {tp : Tp}, VC E Q R (nresults P f K rs k) tp → ∃ vs tp', aresults P f S rs = some vs ∧ VC E Q R (k vs) tp'
  | [], k, tp, h => ⟨[], tp, rfl, h⟩
  | .tmp t :: r, k, tp, h => by
    simp only [nresults] at h
    obtain ⟨vs, tp', h1, h2⟩ := nresults_sound hK h
    exact ⟨_, tp', by simp only [aresults, h1], h2⟩
  | .cell p t :: r, k, tp, h => by
    simp only [nresults] at h
    obtain ⟨v, tp1, h1, h2⟩ := nload_sound hK h
    obtain ⟨vs, tp', h3, h4⟩ := nresults_sound hK h2
    exact ⟨_, tp', by simp only [aresults, h1, h3], h4⟩

/-- A CALL: what is shown of its conditions. -/
theorem nfun_sound (hE : E.OK) {n : Nat} {g : FuncId} {args : List Value} (hg : E.summ g = none) (hK : TOK E.ro E.K0 E.S0) {tp : Tp} (h : VC E Q R (nfun E.P E.kn E.ps n g args E.K0) tp) :
    ∃ v S', RCall E.P E.kn E.summ E.ro g args E.S0 v S' ∧ R v S' := by
  unfold nfun at h
  split at h
  · rename_i fn hfn
    split at h
    · rename_i c hc
      obtain ⟨ex, f', S', K', tp', h1, h2, h3, h4⟩ := nrun_sound hE hK (Delta.refl _ _) h
      have key : ∀ (hex : ∀ i, ex ≠ .exit i) (tp' : Tp), VC E Q R (nresults E.P f' K' fn.results.toList fun vs => .ret (oneOf vs) K') tp' → ∃ v S', RCall E.P E.kn E.summ E.ro g args E.S0 v S' ∧ R v S' := fun hex tp' h4 => by
        obtain ⟨vs, tp2, h5, h6⟩ := nresults_sound h2 h4
        refine ⟨oneOf vs, S', h1.mono fun m hm => ?_, h6 S' h2 h3⟩
        show acallWith E.P E.summ _ E.ro g args E.S0 = _
        unfold acallWith
        rw [hg]
        simp only [hfn, hc, hm]
        cases ex with
        | exit i => exact absurd rfl (hex i)
        | normal => simp only [h5]
        | ret => simp only [h5]
      cases ex with
      | exit i => exact h4.elim
      | normal => exact key (fun i e => by cases e) tp' h4
      | ret => exact key (fun i e => by cases e) tp' h4
    · exact h.elim
  · exact h.elim

/-- A PIECE OF CODE. -/
theorem ncode_sound (hE : E.OK) {n : Nat} {c : Code} {f : Fr} (hK : TOK E.ro E.K0 E.S0) {tp : Tp} (h : VC E Q R (nrun E.P E.kn E.ps n c f E.K0 .done) tp) :
    ∃ ex f' S', RRun E.P E.kn E.summ E.ro c f E.S0 ex f' S' ∧ Q ex f' S' := by
  obtain ⟨ex, f', S', K', tp', h1, h2, h3, h4⟩ := nrun_sound hE hK (Delta.refl _ _) h
  exact ⟨ex, f', S', h1, h4 S' h2 h3⟩

/-- A LOOP, by what holds of its rounds. -/
theorem nloop {P : Program} {kn : Kn} {summ : Summ} {ro : Nat} {α : Type} (I : α → Fr → St → Prop) (μ : α → Nat) (Q : AX → Fr → St → Prop) {b : Code}
    (hb : ∀ a f S, I a f S → ∃ ex f' S', RRun P kn summ ro b f S ex f' S' ∧ ((ex = .normal ∧ ∃ a', I a' f' S' ∧ μ a' < μ a) ∨ (ex ≠ .normal ∧ Q ex f' S')))
    {a : α} {f : Fr} {S : St} (hI : I a f S) (hk : μ a < 1000000) : ∃ ex f' S', RLoop P kn summ ro b f S ex f' S' ∧ Q ex f' S' := by
  have key : ∀ (k : Nat) (a : α) (f : Fr) (S : St), I a f S → μ a < k → ∃ ex f' S', Ev (fun m => aloop (arun P kn summ m ro b) k f S = some (ex, f', S')) ∧ Q ex f' S' := by
    intro k
    induction k with
    | zero => intro a f S _ h; omega
    | succ k ih =>
      intro a f S hI hk
      obtain ⟨ex, f1, S1, h1, ⟨rfl, a', h2, h3⟩ | ⟨h2, h3⟩⟩ := hb a f S hI
      · obtain ⟨ex, f2, S2, h4, h5⟩ := ih a' f1 S1 h2 (by omega)
        exact ⟨ex, f2, S2, (h1.and h4).mono fun m hm => by simp only [aloop, hm.1]; exact hm.2, h5⟩
      · refine ⟨ex, f1, S1, h1.mono fun m hm => ?_, h3⟩
        simp only [aloop, hm]
        cases ex with
        | normal => exact absurd rfl h2
        | exit i => rfl
        | ret => rfl
  exact key 1000000 a f S hI hk

end

theorem look_eq {f : Nat → Value} {i : Nat} : ∀ {l : List (Nat × Value)}, (∀ p, p ∈ l → f p.1 = p.2) → look l i (f i) = f i
  | [], _ => rfl
  | p :: r, h => by
    simp only [look, cond_beq]
    split
    · rename_i e; rw [e]; exact (h p (by simp)).symm
    · exact look_eq (fun q hq => h q (by simp [hq]))

theorem mkF_of {f : Fr} {n : Nat} {l : List (Nat × Value)} (hn : f.n = n) (h : ∀ p, p ∈ l → f.g p.1 = p.2) : f = mkF n l f.g := by
  obtain ⟨m, g⟩ := f
  simp only at hn h
  subst hn
  unfold mkF
  congr 1
  funext i
  exact (look_eq (f := g) h).symm

def Env.forS (E : Env) (K : Tab) (p : St → Prop) : Prop := ∀ S, TOK E.ro K S → Delta E.K0 E.S0 K S → p S
def Env.vcall (E : Env) (K : Tab) (g : FuncId) (args : List Value) {α : Type} (shape : α → Value × Tab) (p : α → Prop) : Prop :=
  ∀ S, TOK E.ro K S → Delta E.K0 E.S0 K S → ∃ a S1, RCall E.P E.kn E.summ E.ro g args S (shape a).1 S1 ∧ TOK E.ro (shape a).2 S1 ∧ Delta K S (shape a).2 S1 ∧ p a
def Env.vlcall (E : Env) (K : Tab) (g : FuncId) (args : List Value) {α : Type} (shape : α → Value × Tab) (p : α → Prop) : Prop :=
  ∀ S, TOK E.ro K S → Delta E.K0 E.S0 K S → ∃ a S1, RCall E.P E.kn E.summ S.next g args S (shape a).1 S1 ∧ News S (shape a).2 S1 ∧ p a
def Env.vloop (E : Env) (K : Tab) (n : Nat) (vs : List Value) (sl : List Nat) (body : Code) {α : Type} (shape : α → AX × Fr × Tab) (p : α → Prop) : Prop :=
  ∀ S f, TOK E.ro K S → Delta E.K0 E.S0 K S → f.n = n → obs f sl = vs → ∃ a S1, RLoop E.P E.kn E.summ E.ro body f S (shape a).1 (shape a).2.1 S1 ∧ TOK E.ro (shape a).2.2 S1 ∧ Delta K S (shape a).2.2 S1 ∧ (shape a).1 ≠ .normal ∧ p a
/-- What is told of a loop. -/
structure LH (α : Type) where
  body : Code
  sl : List Nat
  shape : Tab → α → AX × Fr × Tab

end Go.Ab

/-
  SYMBOLIC RUNS, part 3: the other operations.
-/
import Derived.Test.YtccpckiiademmaaGreatDoorNr2
set_option linter.unusedSimpArgs false
set_option linter.unusedVariables false
namespace Go.Ab

section
variable {E : Env} {Q : AX → Fr → St → Prop} {R : Value → St → Prop} {P : Program} {kn : Kn} {ro : Nat} {K : Tab} {S : St} {tp : Tp}

/-- An operation is told. -/
def Told (E : Env) (Q : AX → Fr → St → Prop) (R : Value → St → Prop) (ro : Nat) (K : Tab) (S : St) (k : Value → Tab → NT) (q : Option (Value × St)) : Prop :=
  ∃ v S' K' tp', q = some (v, S') ∧ TOK ro K' S' ∧ Step K S K' S' ∧ VC E Q R (k v K') tp'

theorem nappendTo_sound {e : TypeId} {i : TypeInfo} {s x : Value} {n : Nat} {news : List Value} {k : Value → Tab → NT} (hK : TOK ro K S) {tS tX : TypeId} {dX : TypeDesc} {z : Value} (hS : P.underlying tS = some (.slice e)) (hX : P.underlying tX = some dX)
    (hz : azero P e = some z) (hi : P.info? e = some i) (hn : anews S.h i z dX x = some (n, news)) (hzs : Nat.beq z.cells.size i.size = true) (h : VC E Q R (nappendTo P e i s n news K k) tp) :
    Told E Q R ro K S k (aappend P ro S tS tX s x) := by
  unfold nappendTo at h
  split at h
  · rename_i a sLen sCap
    replace h := vc_need h; obtain ⟨⟨⟨h1, h2⟩, h3⟩, h⟩ := h
    have hc : (Nat.ble (sLen + n) 4611686018427387904 && (Nat.ble ((sLen + n) * i.bytes) 140737488355328 && (Nat.beq z.cells.size i.size && Nat.beq news.length (n * i.size)))) = true := by
      rw [ble_eq, ble_eq, hzs]; simp [h1, h2, h3]
    unfold Told aappend
    simp only [hS, hX, hz, hi, hn, hc, cond_true]
    split at h
    · replace h := vc_bit h; obtain ⟨tp1, h⟩ := h
      split at h
      · rename_i hb
        simp only [hb, cond_true]
        exact ⟨_, _, _, _, rfl, hK, Step.refl K S, h⟩
      · rename_i hb
        replace h := vc_need h; obtain ⟨h4, h⟩ := h
        obtain ⟨tp2, K', h5, h6, h7⟩ := vc_new hK h
        subst h4
        simp only [hb, cond_false]
        exact ⟨_, _, K', tp2, rfl, h5, h6, h7⟩
    · rename_i b off
      replace h := vc_bit h; obtain ⟨tp1, h⟩ := h
      split at h
      · rename_i hb
        simp only [hb, cond_true]
        exact ⟨_, _, _, _, rfl, hK, Step.refl K S, h⟩
      · rename_i hb
        simp only [hb, cond_false]
        replace h := vc_bit h; obtain ⟨tp2, h⟩ := h
        split at h
        · rename_i hb2
          simp only [hb2, cond_true]
          replace h := vc_bit h; obtain ⟨tp3, h⟩ := h
          split at h
          · rename_i hb3
            simp only [hb3, cond_true]
            obtain ⟨S', K', tp', h4, h5, h6, h7⟩ := nwrite_sound hK h
            rw [h4]
            exact ⟨_, S', K', tp', rfl, h5, h6, h7⟩
          · rename_i hb3
            simp only [hb3, cond_false]
            obtain ⟨olds, tp', h4, h5⟩ := ncells_sound hK h
            obtain ⟨h6, h7⟩ := vc_need h5
            obtain ⟨tp4, K', h8, h9, h10⟩ := vc_new hK h7
            rw [h4]
            have h6' : Nat.beq olds.length (sLen * i.size) = true := by rw [h6]; simp
            simp only [h6', cond_true]
            exact ⟨_, _, K', tp4, rfl, h8, h9, h10⟩
        · rename_i hb2
          simp only [hb2, cond_false]
          split at h
          · rename_i hb3
            obtain ⟨j, en, tp3, h4, rfl, h5⟩ := vc_find h
            split at h5
            · rename_i hr
              split at h5
              · rename_i e0 cs heq
                split at h5
                · rename_i hsz
                  obtain ⟨h6, h7⟩ := vc_need h5
                  obtain ⟨olds, tp4, h8, h9⟩ := vc_oL h7
                  obtain ⟨d1, d2⟩ := hK.drop h4 hr
                  obtain ⟨tp5, K', h10, h11, h12⟩ := vc_new d1 h9
                  have hat := (hK.at_ j en h4).1
                  have hro := hK.rw_ j en h4 hr
                  have hg : (Nat.beq off 0 && (Nat.ble ro en.nm && !(Nat.beq en.nm VOID))) = true := by
                    rw [Bool.and_eq_true] at hb3
                    rw [ble_eq, hb3.1]
                    simp [hro]
                    simpa using hb3.2
                  simp only [hg, cond_true, hat, heq, hsz, h6, Bool.and_self, h8]
                  exact ⟨_, _, K', tp5, rfl, h10, d2.trans h11, h12⟩
                · exact h5.elim
              · exact h5.elim
            · exact h5.elim
          · exact h.elim
    · exact h.elim
  · exact h.elim

theorem nappend_sound {tS tX : TypeId} {s x : Value} {k : Value → Tab → NT} (hK : TOK ro K S) (h : VC E Q R (nappend P tS tX s x K k) tp) : Told E Q R ro K S k (aappend P ro S tS tX s x) := by
  unfold nappend at h
  split at h
  · rename_i e hS
    split at h
    · rename_i dX hX
      split at h
      · rename_i z hz
        split at h
        · rename_i i hi
          split at h
          · exact h.elim
          · rename_i hb
            rw [Bool.or_eq_false_iff] at hb
            split at h
            · rename_i n hn
              obtain ⟨news, tp1, h1, h2⟩ := ncells_sound hK h
              refine nappendTo_sound hK hS hX hz hi ?_ (by simpa using hb.2) h2
              unfold anews
              simp only [hb.1, hn, h1]
            · exact h.elim
        · exact h.elim
      · exact h.elim
    · exact h.elim
  · exact h.elim

theorem nbuildSlice_sound {t : TypeId} {len : Nat} {parts : List (Nat × Value)} {k : Value → Tab → NT} (hK : TOK ro K S) (h : VC E Q R (nbuildSlice P t len parts K k) tp) :
    Told E Q R ro K S k (abuildSlice P S t len parts) ∧ Nat.blt len UNK = true := by
  unfold nbuildSlice at h
  split at h
  · rename_i e hS
    split at h
    · rename_i z hz
      split at h
      · rename_i ie hi
        split at h
        · rename_i hb
          simp only [Bool.and_eq_true] at hb
          split at h
          · rename_i l hl
            obtain ⟨tp1, K', h1, h2, h3⟩ := vc_new hK h
            refine ⟨?_, hb.2.2⟩
            unfold Told abuildSlice
            simp only [hS, hz, hi, hb.1, hb.2.1, Bool.and_self, cond_true, hl]
            exact ⟨_, _, K', tp1, rfl, h1, h2, h3⟩
          · exact h.elim
        · exact h.elim
      · exact h.elim
    · exact h.elim
  · exact h.elim

theorem nmakeSlice_sound {t : TypeId} {len cap : Value} {k : Value → Tab → NT} (hK : TOK ro K S) (h : VC E Q R (nmakeSlice P t len cap K k) tp) : Told E Q R ro K S k (amakeSlice P S t len cap) := by
  unfold nmakeSlice at h
  split at h
  · rename_i k1 n k2 c
    split at h
    · rename_i e hS
      split at h
      · rename_i z hz
        split at h
        · rename_i ie hi
          split at h
          · rename_i hb
            replace h := vc_need h; obtain ⟨⟨⟨h1, h2⟩, h3, h4⟩, h⟩ := h
            obtain ⟨n', rfl⟩ : ∃ m : Nat, n = .ofNat m := ⟨n.toNat, by simp; omega⟩
            obtain ⟨c', rfl⟩ : ∃ m : Nat, c = .ofNat m := ⟨c.toNat, by simp; omega⟩
            obtain ⟨tp1, K', h5, h6, h7⟩ := vc_new hK h
            unfold Told amakeSlice
            have h3' : ie.bytes * c' ≤ 281474976710656 := by
              have h3 : ((ie.bytes * c' : Nat) : Int) ≤ 281474976710656 := by push_cast; simpa using h3
              omega
            have hc : (Nat.beq z.cells.size ie.size && (Nat.ble n' c' && (Nat.ble (ie.bytes * c') 281474976710656 && Nat.ble c' 281474976710656))) = true := by
              rw [ble_eq, ble_eq, ble_eq, hb]
              simp at h2 h4
              simp only [Bool.true_and, Bool.and_eq_true, decide_eq_true_eq]
              exact ⟨by omega, h3', by omega⟩
            simp only [hS, hz, hi, hc, cond_true]
            exact ⟨_, _, K', tp1, rfl, h5, h6, h7⟩
          · exact h.elim
        · exact h.elim
      · exact h.elim
    · exact h.elim
  · exact h.elim

theorem nmakeMap_sound {t : TypeId} {r : Option Value} {k : Value → Tab → NT} (hK : TOK ro K S) (h : VC E Q R (nmakeMap P t r K k) tp) : Told E Q R ro K S k (amakeMap P S t r) := by
  unfold nmakeMap at h
  unfold Told amakeMap
  split at h
  · obtain ⟨tp1, K', h5, h6, h7⟩ := vc_new hK h
    exact ⟨_, _, K', tp1, rfl, h5, h6, h7⟩
  · split at h
    · rename_i ht
      obtain ⟨tp1, K', h5, h6, h7⟩ := vc_new hK h
      simp only [ht]
      exact ⟨_, _, K', tp1, rfl, h5, h6, h7⟩
    · exact h.elim
  · exact h.elim

theorem nconvert_sound {s d : TypeId} {x : Value} {k : Value → Tab → NT} (hK : TOK ro K S) (h : VC E Q R (nconvert P s d x K k) tp) : Told E Q R ro K S k (aconv P S s d x) := by
  unfold nconvert at h
  unfold Told aconv
  split at h
  · exact h.elim
  · rename_i ds hs
    split at h
    · exact h.elim
    · rename_i dd hd
      simp only [hs, hd]
      split at h
      · exact ⟨_, _, K, tp, rfl, hK, Step.refl K S, h⟩
      · exact ⟨_, _, K, tp, rfl, hK, Step.refl K S, h⟩
      · rename_i e b
        split at h
        · rename_i hu
          split at h
          · obtain ⟨tp1, K', h5, h6, h7⟩ := vc_new hK h
            simp only [hu]
            exact ⟨_, _, K', tp1, rfl, h5, h6, h7⟩
          · exact h.elim
        · exact h.elim
      · rename_i a n c
        split at h
        · rename_i e
          split at h
          · rename_i hu
            obtain ⟨cs, tp1, h1, h2⟩ := ncells_sound hK h
            obtain ⟨l, tp2, h3, h4⟩ := vc_oY h2
            simp only [hu, h1, h3]
            exact ⟨_, _, K, tp2, rfl, hK, Step.refl K S, h4⟩
          · exact h.elim
        · exact h.elim
      · exact h.elim

theorem ncopy_sound {tD : TypeId} {d x : Value} {k : Value → Tab → NT} (hK : TOK ro K S) (h : VC E Q R (ncopy P tD d x K k) tp) : Told E Q R ro K S k (acopy P ro S tD d x) := by
  unfold ncopy at h
  unfold Told acopy
  split at h
  · rename_i e hS
    split at h
    · rename_i i hi
      split at h
      · rename_i m hm
        simp only [hS, hi, hm]
        split at h
        · obtain ⟨us, tp1, h1, h2⟩ := ncells_sound hK h
          simp only [h1]
          exact ⟨_, _, K, tp1, rfl, hK, Step.refl K S, h2⟩
        · rename_i b off n c
          split at h
          · exact h.elim
          · rename_i hb
            obtain ⟨us, tp1, h1, h2⟩ := ncells_sound hK h
            obtain ⟨S', K', tp2, h3, h4, h5, h6⟩ := nwrite_sound hK h2
            simp only [h1, hb, Bool.false_and, cond_false, h3]
            exact ⟨_, S', K', tp2, rfl, h4, h5, h6⟩
        · exact h.elim
      · exact h.elim
    · exact h.elim
  · exact h.elim

theorem nlookup_sound {t : TypeId} {m x : Value} {ok : Bool} {k : Value → NT} (hK : TOK ro K S) (h : VC E Q R (nlookup P t m x ok K k) tp) : ∃ u tp', alookup P S.h t m x ok = some u ∧ VC E Q R (k u) tp' := by
  unfold nlookup at h
  split at h
  · obtain ⟨u, tp1, h1, h2⟩ := vc_oV h
    refine ⟨u, tp1, ?_, h2⟩
    unfold mapGet at h1
    unfold alookup amapOf
    exact h1
  · rename_i b
    obtain ⟨i, e, tp1, h1, rfl, h2⟩ := vc_find h
    have ha := (hK.at_ i e h1).1
    obtain ⟨u, tp2, h3, h4⟩ := vc_oV h2
    refine ⟨u, tp2, ?_, h4⟩
    unfold mapGet at h3
    unfold alookup amapOf
    simp only [ha]
    cases hb : e.blk <;> rw [hb] at h3 <;> first
      | exact h3
      | (exfalso
         revert h3
         simp only
         split
         · split
           · simp
           · simp
         · simp)
  · exact h.elim

theorem nmapUpdate_sound {t : TypeId} {m x v : Value} {k : Tab → NT} (hK : TOK ro K S) (h : VC E Q R (nmapUpdate P t m x v K k) tp) :
    ∃ S' K' tp', amapUpdate P ro S t m x v = some S' ∧ TOK ro K' S' ∧ Step K S K' S' ∧ VC E Q R (k K') tp' := by
  unfold nmapUpdate at h
  split at h
  · rename_i b
    obtain ⟨i, ⟨q, bl, w⟩, tp1, h1, rfl, h2⟩ := vc_find h
    have ha := (hK.at_ i _ h1).1
    simp only at h2 ha
    split at h2
    · have hr : (Ent.mk q bl true).rw = true := rfl
      have hro : ro ≤ q := hK.rw_ i _ h1 hr
      obtain ⟨b', tp2, h3, h4⟩ := vc_oB h2
      obtain ⟨h5, h6⟩ := hK.turn h1 hr b'
      refine ⟨_, _, tp2, ?_, h5, h6, h4⟩
      unfold mapPut at h3
      unfold amapUpdate
      split at h3
      · rename_i kt et ht
        split at h3
        · rename_i d hd
          split at h3
          · rename_i es clock
            simp only [ht, hd, ha, ble_eq, hro, decide_true, Bool.and_true]
            cases hc : (plainKey d && plainVal x) with
            | false => rw [hc] at h3; cases h3
            | true =>
              rw [hc] at h3
              simp only [cond_true] at h3 ⊢
              split at h3
              · rename_i j u hf
                simp only [Option.some.injEq] at h3
                simp only [hf, h3]
              · rename_i hf
                simp only [Option.some.injEq] at h3
                simp only [hf, h3]
              · cases h3
          · cases h3
        · cases h3
      · cases h3
    · exact h2.elim
  · exact h.elim

theorem ndelete_sound {t : TypeId} {m x : Value} {k : Tab → NT} (hK : TOK ro K S) (h : VC E Q R (ndelete P t m x K k) tp) :
    ∃ S' K' tp', adelete P ro S t m x = some S' ∧ TOK ro K' S' ∧ Step K S K' S' ∧ VC E Q R (k K') tp' := by
  unfold ndelete at h
  split at h
  · rename_i b
    obtain ⟨i, ⟨q, bl, w⟩, tp1, h1, rfl, h2⟩ := vc_find h
    have ha := (hK.at_ i _ h1).1
    simp only at h2 ha
    split at h2
    · have hr : (Ent.mk q bl true).rw = true := rfl
      have hro : ro ≤ q := hK.rw_ i _ h1 hr
      obtain ⟨b', tp2, h3, h4⟩ := vc_oB h2
      obtain ⟨h5, h6⟩ := hK.turn h1 hr b'
      refine ⟨_, _, tp2, ?_, h5, h6, h4⟩
      unfold mapDel at h3
      unfold adelete
      split at h3
      · rename_i kt et ht
        split at h3
        · rename_i d hd
          split at h3
          · rename_i es clock
            simp only [ht, hd, ha, ble_eq, hro, decide_true, Bool.and_true]
            cases hc : (plainKey d && plainVal x) with
            | false => rw [hc] at h3; cases h3
            | true =>
              rw [hc] at h3
              simp only [cond_true] at h3 ⊢
              split at h3
              · rename_i j u hf
                simp only [Option.some.injEq] at h3
                simp only [hf, h3]
              · rename_i hf
                simp only [Option.some.injEq] at h3
                simp only [hf, h3]
              · cases h3
          · cases h3
        · cases h3
      · cases h3
    · exact h2.elim
  · exact h.elim

theorem nlen_sound {t : TypeId} {x : Value} {k : Value → NT} (hK : TOK ro K S) (h : VC E Q R (nlen P t x K k) tp) : ∃ u tp', alenB P S.h t x = some u ∧ VC E Q R (k u) tp' := by
  unfold nlen at h
  unfold alenB
  split at h
  · rename_i ht; simp only [ht]; exact ⟨_, tp, rfl, h⟩
  · rename_i ht
    simp only [ht]
    exact ⟨_, tp, rfl, h⟩
  · rename_i ht; simp only [ht]; exact ⟨_, tp, rfl, h⟩
  · rename_i ht; simp only [ht]; exact ⟨_, tp, rfl, h⟩
  · rename_i b ht
    obtain ⟨i, e, tp1, h1, rfl, h2⟩ := vc_find h
    have ha := (hK.at_ i e h1).1
    split at h2
    · rename_i es clock heq
      simp only [ht, ha, heq]
      exact ⟨_, tp1, rfl, h2⟩
    · exact h2.elim
  · exact h.elim

theorem nindexAddr_sound {t : TypeId} {x ix : Value} {k : Value → NT} (h : VC E Q R (nindexAddr P t x ix k) tp) : ∃ u tp', aindexAddr P t x ix = some u ∧ VC E Q R (k u) tp' := by
  unfold nindexAddr at h
  unfold aindexAddr
  split at h
  · rename_i kk i
    split at h
    · rename_i e ht
      split at h
      · rename_i b off n c
        split at h
        · rename_i j hj
          obtain ⟨⟨h1, h2⟩, h3⟩ := vc_need h
          obtain ⟨i', rfl⟩ : ∃ m : Nat, i = .ofNat m := ⟨i.toNat, by simp; omega⟩
          have hlt : i' < n := by simp at h2; exact h2
          simp only [ht, hj, blt_eq, hlt, decide_true, cond_true]
          exact ⟨_, tp, rfl, h3⟩
        · exact h.elim
      · exact h.elim
    · rename_i n e ht
      split at h
      · rename_i b off
        split at h
        · rename_i j hj
          obtain ⟨⟨h1, h2⟩, h3⟩ := vc_need h
          obtain ⟨i', rfl⟩ : ∃ m : Nat, i = .ofNat m := ⟨i.toNat, by simp; omega⟩
          have hlt : i' < n := by simp at h2; exact h2
          simp only [ht, hj, blt_eq, hlt, decide_true, cond_true]
          exact ⟨_, tp, rfl, h3⟩
        · exact h.elim
      · exact h.elim
    · exact h.elim
  · exact h.elim

theorem nint_sound {op : BinOp} {kk kk' : IntKind} {a b : Int} {k : Value → NT} (h : VC E Q R (nint op kk a kk' b k) tp) : ∃ u tp', aint op kk a kk' b = some u ∧ VC E Q R (k u) tp' := by
  unfold nint at h
  split at h
  · obtain ⟨h1, h2⟩ := vc_need h
    obtain ⟨i', rfl⟩ : ∃ m : Nat, b = .ofNat m := ⟨b.toNat, by simp; omega⟩
    exact ⟨_, tp, rfl, h2⟩
  · obtain ⟨h1, h2⟩ := vc_need h
    obtain ⟨i', rfl⟩ : ∃ m : Nat, b = .ofNat m := ⟨b.toNat, by simp; omega⟩
    exact ⟨_, tp, rfl, h2⟩
  · split at h
    · rename_i hk
      obtain ⟨h1, h2⟩ := vc_need h
      refine ⟨_, tp, ?_, h2⟩
      simp only [aint, of_decide_eq_true hk, if_true, isame, iquo, if_neg h1]
    · exact h.elim
  · split at h
    · rename_i hk
      obtain ⟨h1, h2⟩ := vc_need h
      refine ⟨_, tp, ?_, h2⟩
      simp only [aint, of_decide_eq_true hk, if_true, isame, irem, if_neg h1]
    · exact h.elim
  · obtain ⟨v, h1, h2⟩ := vc_ofO h
    exact ⟨v, tp, h1, h2⟩

end
end Go.Ab

/-
  GEOMETRY: what the functions of the layer say, in integers.
-/
import Derived.Test.YtccpckiiademmaaGreatDoorPr
import Derived.Test.YtccpckiiademmaaGreatDoorKb2
set_option linter.unusedSimpArgs false
set_option linter.unusedVariables false
namespace Go.Proofs.YtccpckiiademmaaGreatDoor
open Go Go.Ab Go.Proofs

def w64 (x : Int) : Int := IntKind.i64.wrap x
def u64 (x : Int) : Int := IntKind.u64.wrap x
def geoV (n m s : Int) : Value := .agg #[.int .i64 n, .int .i64 m, .int .i64 s]

def linesZ (x : Int) : Int := w64 (w64 ((w64 (w64 (x + 8) - 1)).tdiv 8) * 8)
def slotsZ (m : Int) : Int := w64 (16 + w64 (m * 8))
def bitmapZ (n m : Int) : Int := w64 (slotsZ m + linesZ n)
def wordsZ (n : Int) : Int := w64 ((w64 (w64 (n + 64) - 1)).tdiv 64)
def blocksZ (n m : Int) : Int := w64 (bitmapZ n m + linesZ (wordsZ n))
def allZ (n m s : Int) : Int := w64 (blocksZ n m + w64 (n * w64 (s.tdiv 8)))

def shZ (x : Int) (k : Nat) : Int := x.fdiv ((2 ^ (min k 64) : Nat) : Int)
def anZ (x m : Int) : Int := bits .and .u64 x m
def adZ (x y : Int) : Int := u64 (x + y)
def ones1 (x : Int) : Int := adZ (anZ (shZ x 1) 6148914691236517205) (anZ x 6148914691236517205)
def ones2 (x : Int) : Int := adZ (anZ (shZ x 2) 3689348814741910323) (anZ x 3689348814741910323)
def ones3 (x : Int) : Int := anZ (adZ (shZ x 4) x) 1085102592571150095
def ones4 (x : Int) (k : Nat) : Int := adZ x (shZ x k)
def onesZ (x : Int) : Int := bits .and .i64 (w64 (ones4 (ones4 (ones4 (ones3 (ones2 (ones1 x))) 8) 16) 32)) 127

def rightB (n m s : Int) : Bool :=
  cond (!(ilt n 1)) (cond (!(ilt 65534 n)) (cond (!(ilt m 1)) (cond (!(ilt 65534 m)) (cond (!(ilt s 64)) (cond (!(ilt 4096 s)) (onesZ (u64 s) == 1) false) false) false) false) false) false
def mayB (n m s : Int) : Bool := cond (rightB n m s) (!(ilt 4194304 (allZ n m s))) false
def wordsB (n m s : Int) : Int := cond (mayB n m s) (allZ n m s) 0

theorem cl (b x y : Bool) : cond b (some (Value.bool x)) (some (.bool y)) = some (.bool (cond b x y)) := by cases b <;> rfl
theorem ct (b : Bool) : cond b true false = b := by cases b <;> rfl
theorem cb (b : Bool) : cond b (some (Value.bool true)) (some (.bool false)) = some (.bool b) := by cases b <;> rfl

/-! ### the specifications, as functions on values -/

def fInt (f : Int → Value) (k : IntKind) : List Value → Option Value
  | [.int k' x] => cond (k' == k) (some (f x)) none
  | _ => none
def fGeo (f : Int → Int → Int → Value) : List Value → Option Value
  | [.agg a] => match a.toList with
    | [.int k n, .int k' m, .int k'' s] => cond (k == .i64 && (k' == .i64 && k'' == .i64)) (some (f n m s)) none
    | _ => none
  | _ => none

theorem fInt_some {f : Int → Value} {k : IntKind} {args : List Value} {v : Value} (h : fInt f k args = some v) : ∃ x, args = [.int k x] ∧ v = f x := by
  unfold fInt at h
  split at h
  · rename_i k' x
    cases hk : (k' == k) with
    | false => rw [hk] at h; cases h
    | true =>
      rw [hk] at h
      simp only [cond_true, Option.some.injEq] at h
      have : k' = k := by simpa using hk
      subst this
      exact ⟨x, rfl, h.symm⟩
  · cases h

theorem fGeo_some {f : Int → Int → Int → Value} {args : List Value} {v : Value} (h : fGeo f args = some v) : ∃ n m s, args = [geoV n m s] ∧ v = f n m s := by
  unfold fGeo at h
  split at h
  · rename_i a
    split at h
    · rename_i k n k' m k'' s ha
      cases hk : (k == .i64 && (k' == .i64 && k'' == .i64)) with
      | false => rw [hk] at h; cases h
      | true =>
        rw [hk] at h
        simp only [cond_true, Option.some.injEq] at h
        simp only [Bool.and_eq_true, beq_iff_eq] at hk
        obtain ⟨rfl, rfl, rfl⟩ := hk
        refine ⟨n, m, s, ?_, h.symm⟩
        have : a = #[.int .i64 n, .int .i64 m, .int .i64 s] := by apply Array.ext'; simpa using ha
        rw [this]; rfl
    · cases h
  · cases h

/-- An integer's number. -/
def getI : Option Value → Int
  | some (.int _ n) => n
  | _ => 0
def isI : Option Value → Bool
  | some (.int .i64 _) => true
  | _ => false
theorem isI_spec {v : Option Value} (h : isI v = true) : v = some (.int .i64 (getI v)) := by
  unfold isI at h
  split at h
  · rfl
  · cases h

/-! ### bottom up -/

noncomputable def g1 (b : Summ) : Summ := addS 94 (pureS (fInt (fun x => .int .i64 (linesZ x)) .i64)) b
noncomputable def g2 (b : Summ) : Summ := addS 137 (pureS (fGeo fun n m s => .int .i64 (slotsZ m))) (g1 b)
noncomputable def g3 (b : Summ) : Summ := addS 93 (pureS (fGeo fun n m s => .tuple #[.int .i64 (bitmapZ n m), .int .i64 (wordsZ n)])) (g2 b)
noncomputable def g4 (b : Summ) : Summ := addS 50 (pureS (fGeo fun n m s => .int .i64 (blocksZ n m))) (g3 b)
noncomputable def g5 (b : Summ) : Summ := addS 25 (pureS (fGeo fun n m s => .int .i64 (allZ n m s))) (g4 b)
noncomputable def g6 (b : Summ) : Summ := addS 92 (pureS (fInt (fun x => .int .i64 (onesZ x)) .u64)) (g5 b)
noncomputable def g7 (b : Summ) : Summ := addS 49 (pureS (fInt (fun x => .int .i64 (onesZ x)) .u64)) (g6 b)
noncomputable def g8 (b : Summ) : Summ := addS 24 (pureS (fGeo fun n m s => .bool (rightB n m s))) (g7 b)
noncomputable def g9 (b : Summ) : Summ := addS 12 (pureS (fGeo fun n m s => .bool (mayB n m s))) (g8 b)
noncomputable def g10 (b : Summ) : Summ := addS 13 (pureS (fGeo fun n m s => .int .i64 (wordsB n m s))) (g9 b)

noncomputable def gb : Summ := fun _ => none
theorem gb_ok : SummOK Tryz.prog gb := fun g s h => by cases h

theorem lines_r (x : Int) : res (acall Tryz.prog kn gb 1000 16 94 [.int .i64 x] S0) = some (.int .i64 (linesZ x)) := by kernel_rfl
theorem g1_ok : SummOK Tryz.prog (g1 gb) := pure_ok progOK gb_ok fun args v h => by
  obtain ⟨x, rfl, rfl⟩ := fInt_some h
  exact ⟨rfl, rfl, 1000, lines_r x⟩
theorem slots_r (n m s : Int) : res (acall Tryz.prog kn (g1 gb) 1000 16 137 [geoV n m s] S0) = some (.int .i64 (slotsZ m)) := by kernel_rfl
theorem g2_ok : SummOK Tryz.prog (g2 gb) := pure_ok progOK g1_ok fun args v h => by
  obtain ⟨n, m, s, rfl, rfl⟩ := fGeo_some h
  exact ⟨rfl, rfl, 1000, slots_r n m s⟩
theorem bitmap_r (n m s : Int) : res (acall Tryz.prog kn (g2 gb) 1000 16 93 [geoV n m s] S0) = some (.tuple #[.int .i64 (bitmapZ n m), .int .i64 (wordsZ n)]) := by kernel_rfl
theorem g3_ok : SummOK Tryz.prog (g3 gb) := pure_ok progOK g2_ok fun args v h => by
  obtain ⟨n, m, s, rfl, rfl⟩ := fGeo_some h
  exact ⟨rfl, rfl, 1000, bitmap_r n m s⟩
theorem blocks_r (n m s : Int) : res (acall Tryz.prog kn (g3 gb) 1000 16 50 [geoV n m s] S0) = some (.int .i64 (blocksZ n m)) := by kernel_rfl
theorem g4_ok : SummOK Tryz.prog (g4 gb) := pure_ok progOK g3_ok fun args v h => by
  obtain ⟨n, m, s, rfl, rfl⟩ := fGeo_some h
  exact ⟨rfl, rfl, 1000, blocks_r n m s⟩
theorem all_r (n m s : Int) : res (acall Tryz.prog kn (g4 gb) 1000 16 25 [geoV n m s] S0) = some (.int .i64 (allZ n m s)) := by kernel_rfl
theorem g5_ok : SummOK Tryz.prog (g5 gb) := pure_ok progOK g4_ok fun args v h => by
  obtain ⟨n, m, s, rfl, rfl⟩ := fGeo_some h
  exact ⟨rfl, rfl, 1000, all_r n m s⟩
theorem ones64_i (x : Int) : isI (res (acall Tryz.prog kn (g5 gb) 1000 16 92 [.int .u64 x] S0)) = true := by kernel_rfl
theorem ones64_g (x : Int) : getI (res (acall Tryz.prog kn (g5 gb) 1000 16 92 [.int .u64 x] S0)) = onesZ x := by kernel_rfl
theorem ones64_r (x : Int) : res (acall Tryz.prog kn (g5 gb) 1000 16 92 [.int .u64 x] S0) = some (.int .i64 (onesZ x)) := by
  rw [isI_spec (ones64_i x), ones64_g x]
theorem g6_ok : SummOK Tryz.prog (g6 gb) := pure_ok progOK g5_ok fun args v h => by
  obtain ⟨x, rfl, rfl⟩ := fInt_some h
  exact ⟨rfl, rfl, 1000, ones64_r x⟩
theorem ones_r (x : Int) : res (acall Tryz.prog kn (g6 gb) 1000 16 49 [.int .u64 x] S0) = some (.int .i64 (onesZ x)) := by kernel_rfl
theorem g7_ok : SummOK Tryz.prog (g7 gb) := pure_ok progOK g6_ok fun args v h => by
  obtain ⟨x, rfl, rfl⟩ := fInt_some h
  exact ⟨rfl, rfl, 1000, ones_r x⟩

def bT : Option Value := some (.bool true)
def bF : Option Value := some (.bool false)
theorem right_k (n m s : Int) : kcall Tryz.prog kn (g7 gb) 1000 16 24 [geoV n m s] S0 res =
    cond (!(ilt n 1)) (cond (!(ilt 65534 n)) (cond (!(ilt m 1)) (cond (!(ilt 65534 m)) (cond (!(ilt s 64)) (cond (!(ilt 4096 s)) (cond (onesZ (u64 s) == 1) bT bF) bF) bF) bF) bF) bF) bF := by kernel_rfl
theorem g8_ok : SummOK Tryz.prog (g8 gb) := pure_ok progOK g7_ok fun args v h => by
  obtain ⟨n, m, s, rfl, rfl⟩ := fGeo_some h
  refine ⟨rfl, rfl, 1000, ?_⟩
  refine (kcall_eq Tryz.prog kn (g7 gb) (n := 1000) (ro := 16) (by rfl) _ S0 res).symm.trans ((right_k n m s).trans ?_)
  simp only [bT, bF, cl, ct]
  rfl
theorem may_k (n m s : Int) : kcall Tryz.prog kn (g8 gb) 1000 16 12 [geoV n m s] S0 res =
    cond (rightB n m s) (cond (!(ilt 4194304 (allZ n m s))) bT bF) bF := by kernel_rfl
theorem g9_ok : SummOK Tryz.prog (g9 gb) := pure_ok progOK g8_ok fun args v h => by
  obtain ⟨n, m, s, rfl, rfl⟩ := fGeo_some h
  refine ⟨rfl, rfl, 1000, ?_⟩
  refine (kcall_eq Tryz.prog kn (g8 gb) (n := 1000) (ro := 16) (by rfl) _ S0 res).symm.trans ((may_k n m s).trans ?_)
  simp only [bT, bF, cl, ct]
  rfl
theorem words_k (n m s : Int) : kcall Tryz.prog kn (g9 gb) 1000 16 13 [geoV n m s] S0 res =
    cond (mayB n m s) (some (.int .i64 (allZ n m s))) (some (.int .i64 0)) := by kernel_rfl
theorem g10_ok : SummOK Tryz.prog (g10 gb) := pure_ok progOK g9_ok fun args v h => by
  obtain ⟨n, m, s, rfl, rfl⟩ := fGeo_some h
  refine ⟨rfl, rfl, 1000, ?_⟩
  refine (kcall_eq Tryz.prog kn (g9 gb) (n := 1000) (ro := 16) (by rfl) _ S0 res).symm.trans ((words_k n m s).trans ?_)
  unfold wordsB
  cases mayB n m s <;> rfl

end Go.Proofs.YtccpckiiademmaaGreatDoor

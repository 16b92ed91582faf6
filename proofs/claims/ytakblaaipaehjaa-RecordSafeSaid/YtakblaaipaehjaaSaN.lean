/- Layer 17: what its functions answer. -/
import Derived.Test.YtakblaaipaehjaaSaG
import Derived.Test.YtakblaaipaehjaaSaL
set_option linter.unusedSimpArgs false
set_option linter.unusedVariables false
set_option maxHeartbeats 40000000
namespace Go.Eng
theorem nat_and_two (x : Nat) : x &&& 2 = if x / 2 % 2 = 1 then 2 else 0 := by
  apply Nat.eq_of_testBit_eq
  intro i
  have h2 : Nat.testBit 2 i = decide (1 = i) := by
    have := @Nat.testBit_two_pow 1 i
    simpa using this
  rw [Nat.testBit_and, h2]
  by_cases hi : 1 = i
  · subst hi
    rw [Nat.testBit_eq_decide_div_mod_eq]
    by_cases h : x / 2 % 2 = 1
    · simp [h]; decide
    · simp [h]
  · split
    · rw [h2]; simp [hi]
    · simp [hi]
theorem one64 : (BitVec.ofInt 64 1).toNat = 1 := by decide
theorem two64 : (BitVec.ofInt 64 2).toNat = 2 := by decide
theorem tn1 (a : Int) : (a % 18446744073709551616).toNat % 2 = (a % 2).toNat := by omega
theorem tn2 (a : Int) : (((if (a % 18446744073709551616).toNat / 2 % 2 = 1 then 2 else 0 : Nat)) : Int) = (if a / 2 % 2 = 1 then 2 else 0) := by
  repeat' split
  all_goals omega
theorem and_one (a : Int) : (BitVec.ofInt 64 a &&& BitVec.ofInt 64 1).toNat = (a % 2).toNat := by
  rw [BitVec.toNat_and, BitVec.toNat_ofInt, one64, Nat.and_one_is_mod]
  exact tn1 a
theorem and_two (a : Int) : ((BitVec.ofInt 64 a &&& BitVec.ofInt 64 2).toNat : Int) = (if a / 2 % 2 = 1 then 2 else 0) := by
  rw [BitVec.toNat_and, BitVec.toNat_ofInt, two64, nat_and_two]
  exact tn2 a
theorem bin_and1 (a : Int) : binK .and (some (.int .i64 a)) (some (.int .i64 1)) = some (.int .i64 (a % 2)) := by
  have h : binK .and (some (.int .i64 a)) (some (.int .i64 1)) = some (.int .i64 (IntKind.i64.wrap ((BitVec.ofInt 64 a &&& BitVec.ofInt 64 1).toNat : Nat))) := rfl
  rw [h, and_one, IntKind.wrap_i64]
  refine congrArg (fun z => some (AVal.int .i64 z)) ?_
  omega
theorem bin_and2 (a : Int) : binK .and (some (.int .i64 a)) (some (.int .i64 2)) = some (.int .i64 (if a / 2 % 2 = 1 then 2 else 0)) := by
  have h : binK .and (some (.int .i64 a)) (some (.int .i64 2)) = some (.int .i64 (IntKind.i64.wrap ((BitVec.ofInt 64 a &&& BitVec.ofInt 64 2).toNat : Nat))) := rfl
  rw [h, and_two, IntKind.wrap_i64]
  refine congrArg (fun z => some (AVal.int .i64 z)) ?_
  split <;> omega
theorem bin_shr (k j : IntKind) (a b : Int) : binK .shr (some (.int k a)) (some (.int j b)) = if b < 0 then none else some (.int k (a.fdiv (2 ^ (min b.toNat k.bits)))) := by simp [binK, abin]
attribute [go_sem high] bin_and1 bin_and2
attribute [go_sem] bin_shr
end Go.Eng
namespace Go.Eng.SeatA
open Go.Proofs
def cmpL (x y : Int) : Int := if x < y then -1 else if y < x then 1 else 0
def newerL (ta na tb nb : Int) : Bool := decide (tb < ta) || (decide (ta = tb) && decide (nb < na))
def checkL (t n s : Int) : Int := if mayL t = true ∧ mayL n = true ∧ 1 ≤ s ∧ s ≤ 3 then 0 else 2
def hasL (s node : Int) : Bool := (decide (node = 0) && decide (s % 2 = 1)) || (decide (node = 1) && decide (s / 2 % 2 = 1))
def mayR (t n s node vt vn vs : Int) : Bool := decide (checkL t n s = 0) && decide (checkL vt vn vs = 0) && hasL s node && (newerL t n vt vn || hasL vs node)
def r50 : List AVal → Option AVal
  | [.int .i64 _] => some (.bool false)
  | _ => none
def r47 : List AVal → Option AVal
  | [.int .i64 x, .int .i64 y] => some (.int .i64 (cmpL x y))
  | _ => none
def r26 : List AVal → Option AVal
  | [.agg [.int .i64 t, .int .i64 n, .int .i64 s]] => some (.int .i64 (checkL t n s))
  | _ => none
def r28 : List AVal → Option AVal
  | [.agg [.int .i64 ta, .int .i64 na, .int .i64 _], .agg [.int .i64 tb, .int .i64 nb, .int .i64 _]] => some (.bool (newerL ta na tb nb))
  | _ => none
def r30 : List AVal → Option AVal
  | [.agg [.int .i64 _, .int .i64 _, .int .i64 s], .int .i64 node] => some (.bool (hasL s node))
  | _ => none
def r48 : List AVal → Option AVal
  | [.int .i64 s, .int .i64 node] => if node = 0 ∨ node = 1 then some (.bool (hasL s node)) else none
  | _ => none
def r32 : List AVal → Option AVal
  | [.agg [.int .i64 t, .int .i64 n, .int .i64 s], .int .i64 node, .agg [.int .i64 vt, .int .i64 vn, .int .i64 vs]] => some (.bool (mayR t n s node vt vn vs))
  | _ => none
theorem s44 : Sound Try.prog 44 (pspec r41) := by
  refine (fun_sound none_sound none_soundD mixed Try.func44 cal44 comp44).pspec (φ := denF none2 none2 c44) fun args v h => ?_
  unfold r41 at h
  split at h
  · simp only [Option.some.injEq] at h; subst h
    refine ⟨by simp [AVal.scals, AVal.scal], by simp [AVal.scals, AVal.scal], ?_⟩
    unfold c44
    simp (maxSteps := 10000000) +contextual [go_sem]
    all_goals repeat' split
    all_goals refine ansE_bool ?_
    all_goals simp only [mayL] at *
    all_goals simp_all
    all_goals omega
  · simp at h
theorem s45 : Sound Try.prog 45 (pspec r41) := by
  refine (fun_sound none_sound none_soundD mixed Try.func45 cal45 comp45).pspec (φ := denF none2 none2 c45) fun args v h => ?_
  unfold r41 at h
  split at h
  · simp only [Option.some.injEq] at h; subst h
    refine ⟨by simp [AVal.scals, AVal.scal], by simp [AVal.scals, AVal.scal], ?_⟩
    unfold c45
    simp (maxSteps := 10000000) +contextual [go_sem]
    all_goals repeat' split
    all_goals refine ansE_bool ?_
    all_goals simp only [mayL] at *
    all_goals simp_all
    all_goals omega
  · simp at h
theorem s50 : Sound Try.prog 50 (pspec r50) := by
  refine (fun_sound none_sound none_soundD mixed Try.func50 cal50 comp50).pspec (φ := denF none2 none2 c50) fun args v h => ?_
  unfold r50 at h
  split at h
  · simp only [Option.some.injEq] at h; subst h
    refine ⟨by simp [AVal.scals, AVal.scal], by simp [AVal.scals, AVal.scal], ?_⟩
    unfold c50
    simp (maxSteps := 10000000) +contextual [go_sem]
  · simp at h
theorem s48 : Sound Try.prog 48 (pspec r48) := by
  refine (fun_sound none_sound none_soundD mixed Try.func48 cal48 comp48).pspec (φ := denF none2 none2 c48) fun args v h => ?_
  unfold r48 at h
  split at h
  · rename_i s node
    by_cases h0 : node = 0
    · subst h0
      simp only [true_or, if_true, Option.some.injEq] at h; subst h
      refine ⟨by simp [AVal.scals, AVal.scal], by simp [AVal.scals, AVal.scal], ?_⟩
      unfold c48
      simp (maxSteps := 10000000) +contextual [go_sem, hasL]
    · by_cases h1 : node = 1
      · subst h1
        simp only [or_true, if_true, Option.some.injEq] at h; subst h
        refine ⟨by simp [AVal.scals, AVal.scal], by simp [AVal.scals, AVal.scal], ?_⟩
        unfold c48
        have h64 : min 1 IntKind.i64.bits = 1 := rfl
        have hf : s.fdiv 2 = s / 2 := by rw [Int.fdiv_eq_ediv_of_nonneg _ (by omega)]
        simp (maxSteps := 10000000) +contextual [go_sem, hasL, h64, hf]
      · simp [h0, h1] at h
  · simp at h
-- GEN17
def Ψ1 : Phi := updP (updP (updP (updP (none2) 44 (pspec r41)) 45 (pspec r41)) 50 (pspec r50)) 48 (pspec r48)
theorem oq1 : ∀ f, Sound Try.prog f (Ψ1 f) := updP_ok (updP_ok (updP_ok (updP_ok (none_sound) s44) s45) s50) s48
theorem q1_44 (l : List AVal) (H : AHeap) : Ψ1 44 l H = pspec r41 l H := (rfl)
theorem q1_45 (l : List AVal) (H : AHeap) : Ψ1 45 l H = pspec r41 l H := (rfl)
theorem q1_50 (l : List AVal) (H : AHeap) : Ψ1 50 l H = pspec r50 l H := (rfl)
theorem q1_48 (l : List AVal) (H : AHeap) : Ψ1 48 l H = pspec r48 l H := (rfl)
theorem s47 : Sound Try.prog 47 (pspec r47) := by
  refine (fun_sound oq1 none_soundD mixed Try.func47 cal47 comp47).pspec (φ := denF Ψ1 none2 c47) fun args v h => ?_
  unfold r47 at h
  split at h
  · simp only [Option.some.injEq] at h; subst h
    rename_i x y
    refine ⟨by simp [AVal.scals, AVal.scal], by simp [AVal.scals, AVal.scal], ?_⟩
    unfold c47
    simp (maxSteps := 10000000) +contextual [go_sem, q1_50, r50]
    all_goals repeat' split
    all_goals (first | (refine ansE_bool ?_) | (refine ansE_int ?_) | skip)
    all_goals simp only [cmpL, IntKind.wrap_i64] at *
    all_goals simp_all
    all_goals omega
  · simp at h
theorem s26 : Sound Try.prog 26 (pspec r26) := by
  refine (fun_sound oq1 none_soundD mixed Try.func26 cal26 comp26).pspec (φ := denF Ψ1 none2 c26) fun args v h => ?_
  unfold r26 at h
  split at h
  · simp only [Option.some.injEq] at h; subst h
    rename_i a n s
    refine ⟨by simp [AVal.scals, AVal.scal], by simp [AVal.scals, AVal.scal], ?_⟩
    unfold c26
    simp (maxSteps := 10000000) +contextual [go_sem, q1_44, r41]
    all_goals repeat' split
    all_goals (first | (refine ansE_bool ?_) | (refine ansE_int ?_) | skip)
    all_goals simp only [checkL, IntKind.wrap_i64] at *
    all_goals simp_all
    all_goals omega
  · simp at h
theorem s27 : Sound Try.prog 27 (pspec r26) := by
  refine (fun_sound oq1 none_soundD mixed Try.func27 cal27 comp27).pspec (φ := denF Ψ1 none2 c27) fun args v h => ?_
  unfold r26 at h
  split at h
  · simp only [Option.some.injEq] at h; subst h
    rename_i a n s
    refine ⟨by simp [AVal.scals, AVal.scal], by simp [AVal.scals, AVal.scal], ?_⟩
    unfold c27
    simp (maxSteps := 10000000) +contextual [go_sem, q1_45, r41]
    all_goals repeat' split
    all_goals (first | (refine ansE_bool ?_) | (refine ansE_int ?_) | skip)
    all_goals simp only [checkL, IntKind.wrap_i64] at *
    all_goals simp_all
    all_goals omega
  · simp at h
theorem s31 : Sound Try.prog 31 (pspec r30) := by
  refine (fun_sound oq1 none_soundD mixed Try.func31 cal31 comp31).pspec (φ := denF Ψ1 none2 c31) fun args v h => ?_
  unfold r30 at h
  split at h
  · simp only [Option.some.injEq] at h; subst h
    rename_i x y s node
    refine ⟨by simp [AVal.scals, AVal.scal], by simp [AVal.scals, AVal.scal], ?_⟩
    unfold c31
    simp (maxSteps := 10000000) +contextual [go_sem]
    all_goals repeat' split
    all_goals (first | (refine ansE_bool ?_) | (refine ansE_int ?_) | skip)
    all_goals simp only [hasL, IntKind.wrap_i64] at *
    all_goals simp_all
    all_goals omega
  · simp at h
theorem s29 : Sound Try.prog 29 (pspec r28) := by
  refine (fun_sound oq1 none_soundD mixed Try.func29 cal29 comp29).pspec (φ := denF Ψ1 none2 c29) fun args v h => ?_
  unfold r28 at h
  split at h
  · simp only [Option.some.injEq] at h; subst h
    rename_i a b c d e f
    refine ⟨by simp [AVal.scals, AVal.scal], by simp [AVal.scals, AVal.scal], ?_⟩
    unfold c29
    simp (maxSteps := 10000000) +contextual [go_sem]
    all_goals repeat' split
    all_goals (first | (refine ansE_bool ?_) | (refine ansE_int ?_) | skip)
    all_goals simp only [newerL, IntKind.wrap_i64] at *
    all_goals simp_all
    all_goals omega
  · simp at h
theorem iter_3 (f : ASt → Option (AEx × ASt)) (s : ASt) : iter f 3 s = iterK (f s) f 2 := (rfl)
theorem iter_2 (f : ASt → Option (AEx × ASt)) (s : ASt) : iter f 2 s = iterK (f s) f 1 := (rfl)
theorem iter_1 (f : ASt → Option (AEx × ASt)) (s : ASt) : iter f 1 s = iterK (f s) f 0 := (rfl)
def r46 : List AVal → AHeap → Option AVal
  | [.sl b 0 2 _], H => match H.get b with
    | .cells [.int .i64 x, .int .i64 y] _ _ _ => some (.int .i64 (if x = 0 then y else x))
    | _ => none
  | _, _ => none
theorem run46 {H : AHeap} {x y : Int} {e : TypeId} {es : Nat} {m : Mode} {c : Option Nat} (hH : H.get 0 = .cells [.int .i64 x, .int .i64 y] e es m) :
    iter (aden none2 b46_0) 3 ⟨[(3, .int .i64 0), (6, .sl 0 0 2 c), (7, .int .i64 2), (8, .int .i64 0)], H, []⟩ = if x = 0 then (if y = 0 then some (.exit 0, ⟨[(3, .int .i64 0), (6, .sl 0 0 2 c), (7, .int .i64 2), (8, .int .i64 2), (9, .bool false)], H, []⟩) else some (.ret, ⟨[(2, .int .i64 y)], H, []⟩)) else some (.ret, ⟨[(2, .int .i64 x)], H, []⟩) := by
  have w1 : IntKind.i64.wrap 1 = 1 := rfl
  have w2 : IntKind.i64.wrap 2 = 2 := rfl
  by_cases hx : x = 0
  · subst hx
    by_cases hy : y = 0
    · subst hy
      simp (maxSteps := 10000000) +contextual [go_sem, iter_3, iter_2, iter_1, b46_0, hH, w1, w2]
    · simp (maxSteps := 10000000) +contextual [go_sem, iter_3, iter_2, iter_1, b46_0, hH, w1, w2, hy]
  · simp (maxSteps := 10000000) +contextual [go_sem, iter_3, iter_2, iter_1, b46_0, hH, w1, w2, hx]
theorem s46 : Sound Try.prog 46 (rspec r46) := by
  refine (fun_sound none_sound none_soundD mixed Try.func46 cal46 comp46).rspec (φ := denF none2 none2 c46) fun args H v h => ?_
  unfold r46 at h
  split at h
  · rename_i b c
    split at h
    · rename_i x y e es m hb
      simp only [Option.some.injEq] at h; subst h
      have hg : (sub H [b]).get 0 = .cells [.int .i64 x, .int .i64 y] e es m := by rw [sub_get]; exact hb
      refine ⟨rfl, [b], [.sl 0 0 2 c], sub H [b], by simp, by simp [hb, scalBlk, AVal.scals, AVal.scal], by simp [rens, ren], ?_, fun i hi => rfl⟩
      have hl := run46 hg (c := c)
      unfold c46
      by_cases hx : x = 0
      · rw [if_pos hx] at hl
        by_cases hy : y = 0
        · rw [if_pos hy] at hl
          have hl := iter_mono hl (show 3 ≤ fuel by unfold fuel; omega)
          simp (maxSteps := 10000000) +contextual [go_sem, hl, hx, hy]
        · rw [if_neg hy] at hl
          have hl := iter_mono hl (show 3 ≤ fuel by unfold fuel; omega)
          simp (maxSteps := 10000000) +contextual [go_sem, hl, hx]
      · rw [if_neg hx] at hl
        have hl := iter_mono hl (show 3 ≤ fuel by unfold fuel; omega)
        simp (maxSteps := 10000000) +contextual [go_sem, hl, hx]
    · simp at h
  · simp at h
def Ψ2 : Phi := updP (updP (Ψ1) 47 (pspec r47)) 46 (rspec r46)
theorem oq2 : ∀ f, Sound Try.prog f (Ψ2 f) := updP_ok (updP_ok (oq1) s47) s46
theorem q2_47 (l : List AVal) (H : AHeap) : Ψ2 47 l H = pspec r47 l H := (rfl)
theorem q2_46 (l : List AVal) (H : AHeap) : Ψ2 46 l H = rspec r46 l H := (rfl)
theorem q2_48 (l : List AVal) (H : AHeap) : Ψ2 48 l H = pspec r48 l H := (rfl)
theorem newer_cmp (a b d e : Int) : decide (0 < (if cmpL a d = 0 then cmpL b e else cmpL a d)) = newerL a b d e := by
  rw [Bool.eq_iff_iff]
  simp only [decide_eq_true_eq, newerL, Bool.or_eq_true, Bool.and_eq_true, cmpL]
  by_cases h1 : a < d <;> by_cases h2 : d < a <;> by_cases h3 : b < e <;> by_cases h4 : e < b
  all_goals simp only [h1, h2, h3, h4, if_true, if_false, ite_self]
  all_goals simp
  all_goals omega
theorem newer_cmp1 (a b d e : Int) (h : cmpL a d = 0) : decide (0 < cmpL b e) = newerL a b d e := by rw [← newer_cmp, if_pos h]
theorem newer_cmp2 (a b d e : Int) (h : ¬ cmpL a d = 0) : decide (0 < cmpL a d) = newerL a b d e := by rw [← newer_cmp, if_neg h]
theorem s28 : Sound Try.prog 28 (pspec r28) := by
  refine (fun_sound oq2 none_soundD mixed Try.func28 cal28 comp28).pspec (φ := denF Ψ2 none2 c28) fun args v h => ?_
  unfold r28 at h
  split at h
  · simp only [Option.some.injEq] at h; subst h
    rename_i a b c d e f
    refine ⟨by simp [AVal.scals, AVal.scal], by simp [AVal.scals, AVal.scal], ?_⟩
    unfold c28
    simp (maxSteps := 10000000) +contextual [go_sem, q2_47, q2_46, r47, r46]
    all_goals repeat' split
    all_goals (first | (refine ansE_bool ?_) | (refine ansE_int ?_) | skip)
    all_goals first | exact newer_cmp _ _ _ _ | (exact newer_cmp1 _ _ _ _ (by assumption)) | (exact newer_cmp2 _ _ _ _ (by assumption))
  · simp at h
theorem s30 : Sound Try.prog 30 (pspec r30) := by
  refine (fun_sound oq2 none_soundD mixed Try.func30 cal30 comp30).pspec (φ := denF Ψ2 none2 c30) fun args v h => ?_
  unfold r30 at h
  split at h
  · simp only [Option.some.injEq] at h; subst h
    rename_i x y s node
    refine ⟨by simp [AVal.scals, AVal.scal], by simp [AVal.scals, AVal.scal], ?_⟩
    unfold c30
    simp (maxSteps := 10000000) +contextual [go_sem, q2_48, r48]
    all_goals repeat' split
    all_goals (first | (refine ansE_bool ?_) | (refine ansE_int ?_) | skip)
    all_goals simp only [hasL, IntKind.wrap_i64] at *
    all_goals simp_all
    all_goals omega
  · simp at h
def Ψ3 : Phi := updP (updP (updP (updP (updP (updP (Ψ2) 26 (pspec r26)) 27 (pspec r26)) 28 (pspec r28)) 29 (pspec r28)) 30 (pspec r30)) 31 (pspec r30)
theorem oq3 : ∀ f, Sound Try.prog f (Ψ3 f) := updP_ok (updP_ok (updP_ok (updP_ok (updP_ok (updP_ok (oq2) s26) s27) s28) s29) s30) s31
theorem q3_26 (l : List AVal) (H : AHeap) : Ψ3 26 l H = pspec r26 l H := (rfl)
theorem q3_27 (l : List AVal) (H : AHeap) : Ψ3 27 l H = pspec r26 l H := (rfl)
theorem q3_28 (l : List AVal) (H : AHeap) : Ψ3 28 l H = pspec r28 l H := (rfl)
theorem q3_29 (l : List AVal) (H : AHeap) : Ψ3 29 l H = pspec r28 l H := (rfl)
theorem q3_30 (l : List AVal) (H : AHeap) : Ψ3 30 l H = pspec r30 l H := (rfl)
theorem q3_31 (l : List AVal) (H : AHeap) : Ψ3 31 l H = pspec r30 l H := (rfl)
theorem q3_44 (l : List AVal) (H : AHeap) : Ψ3 44 l H = pspec r41 l H := (rfl)
theorem q3_45 (l : List AVal) (H : AHeap) : Ψ3 45 l H = pspec r41 l H := (rfl)
theorem check_cases (t n s : Int) : checkL t n s = 0 ∨ checkL t n s = 2 := by unfold checkL; split <;> simp
def nextV (t n s term set : Int) : Int × Int × Int × Int :=
  if checkL t n s = 0 ∧ 1 ≤ set ∧ set ≤ 3 ∧ mayL term = true then
    if term < t ∨ (term = t ∧ n = 1099511627776) then (0, 0, 0, 9)
    else if term = t then (term, n + 1, set, 0)
    else (term, 0, set, 0)
  else (0, 0, 0, 2)
def r35 : List AVal → Option AVal
  | [.agg [.int .i64 t, .int .i64 n, .int .i64 s], .int .i64 term, .int .i64 set] => some (.tup [.agg [.int .i64 (nextV t n s term set).1, .int .i64 (nextV t n s term set).2.1, .int .i64 (nextV t n s term set).2.2.1], .int .i64 (nextV t n s term set).2.2.2])
  | _ => none
theorem s32 : Sound Try.prog 32 (pspec r32) := by
  refine (fun_sound oq3 none_soundD mixed Try.func32 cal32 comp32).pspec (φ := denF Ψ3 none2 c32) fun args v h => ?_
  unfold r32 at h
  split at h
  · simp only [Option.some.injEq] at h; subst h
    rename_i a b c node d e f
    refine ⟨by simp [AVal.scals, AVal.scal], by simp [AVal.scals, AVal.scal], ?_⟩
    unfold c32
    simp (maxSteps := 10000000) +contextual [go_sem, q3_26, q3_28, q3_30, r26, r28, r30]
    all_goals repeat' split
    all_goals (first | (refine ansE_bool ?_) | (refine ansE_int ?_) | skip)
    all_goals simp only [mayR, IntKind.wrap_i64] at *
    all_goals simp_all
    all_goals omega
  · simp at h
theorem s33 : Sound Try.prog 33 (pspec r32) := by
  refine (fun_sound oq3 none_soundD mixed Try.func33 cal33 comp33).pspec (φ := denF Ψ3 none2 c33) fun args v h => ?_
  unfold r32 at h
  split at h
  · simp only [Option.some.injEq] at h; subst h
    rename_i a b c node d e f
    refine ⟨by simp [AVal.scals, AVal.scal], by simp [AVal.scals, AVal.scal], ?_⟩
    unfold c33
    simp (maxSteps := 10000000) +contextual [go_sem, q3_27, q3_29, q3_31, r26, r28, r30]
    all_goals repeat' split
    all_goals (first | (refine ansE_bool ?_) | (refine ansE_int ?_) | skip)
    all_goals simp only [mayR, IntKind.wrap_i64] at *
    all_goals simp_all
    all_goals omega
  · simp at h
theorem s35 : Sound Try.prog 35 (pspec r35) := by
  refine (fun_sound oq3 none_soundD mixed Try.func35 cal35 comp35).pspec (φ := denF Ψ3 none2 c35) fun args v h => ?_
  unfold r35 at h
  split at h
  · simp only [Option.some.injEq] at h; subst h
    rename_i a b c term set
    refine ⟨by simp [AVal.scals, AVal.scal], by simp [AVal.scals, AVal.scal], ?_⟩
    unfold c35
    by_cases hc : checkL a b c = 0
    · have hw : IntKind.i64.wrap (b + 1) = b + 1 := by
        unfold checkL at hc
        split at hc
        · rename_i h1
          simp only [mayL, Bool.and_eq_true, decide_eq_true_eq] at h1
          rw [IntKind.wrap_i64]; omega
        · simp at hc
      by_cases h1 : set < 1
      · have h1' : ¬ 1 ≤ set := by omega
        simp (maxSteps := 10000000) +contextual [go_sem, q3_26, q3_44, r41, r26, nextV, hc, h1, h1']
      · have h1' : 1 ≤ set := by omega
        by_cases h3 : 3 < set
        · have h3' : ¬ set ≤ 3 := by omega
          simp (maxSteps := 10000000) +contextual [go_sem, q3_26, q3_44, r41, r26, nextV, hc, h1, h1', h3, h3']
        · have h3' : set ≤ 3 := by omega
          by_cases ht : mayL term = true
          · by_cases hl : term < a
            · simp (maxSteps := 10000000) +contextual [go_sem, q3_26, q3_44, r41, r26, nextV, hc, h1, h1', h3, h3', ht, hl]
            · have hl' : a ≤ term := by omega
              by_cases he : term = a
              · subst he
                by_cases hm : b = 1099511627776
                · subst hm
                  simp (maxSteps := 10000000) +contextual [go_sem, q3_26, q3_44, r41, r26, nextV, hc, h1, h1', h3, h3', ht, hl, hl']
                · simp (maxSteps := 10000000) +contextual [go_sem, q3_26, q3_44, r41, r26, nextV, hc, h1, h1', h3, h3', ht, hl, hl', hm, hw]
              · simp (maxSteps := 10000000) +contextual [go_sem, q3_26, q3_44, r41, r26, nextV, hc, h1, h1', h3, h3', ht, hl, hl', he]
          · simp (maxSteps := 10000000) +contextual [go_sem, q3_26, q3_44, r41, r26, nextV, hc, h1, h1', h3, h3', ht]
    · have hc2 := (check_cases a b c).resolve_left hc
      simp (maxSteps := 10000000) +contextual [go_sem, q3_26, q3_44, r41, r26, nextV, hc2]
  · simp at h
theorem s36 : Sound Try.prog 36 (pspec r35) := by
  refine (fun_sound oq3 none_soundD mixed Try.func36 cal36 comp36).pspec (φ := denF Ψ3 none2 c36) fun args v h => ?_
  unfold r35 at h
  split at h
  · simp only [Option.some.injEq] at h; subst h
    rename_i a b c term set
    refine ⟨by simp [AVal.scals, AVal.scal], by simp [AVal.scals, AVal.scal], ?_⟩
    unfold c36
    by_cases hc : checkL a b c = 0
    · have hw : IntKind.i64.wrap (b + 1) = b + 1 := by
        unfold checkL at hc
        split at hc
        · rename_i h1
          simp only [mayL, Bool.and_eq_true, decide_eq_true_eq] at h1
          rw [IntKind.wrap_i64]; omega
        · simp at hc
      by_cases h1 : set < 1
      · have h1' : ¬ 1 ≤ set := by omega
        simp (maxSteps := 10000000) +contextual [go_sem, q3_27, q3_45, r41, r26, nextV, hc, h1, h1']
      · have h1' : 1 ≤ set := by omega
        by_cases h3 : 3 < set
        · have h3' : ¬ set ≤ 3 := by omega
          simp (maxSteps := 10000000) +contextual [go_sem, q3_27, q3_45, r41, r26, nextV, hc, h1, h1', h3, h3']
        · have h3' : set ≤ 3 := by omega
          by_cases ht : mayL term = true
          · by_cases hl : term < a
            · simp (maxSteps := 10000000) +contextual [go_sem, q3_27, q3_45, r41, r26, nextV, hc, h1, h1', h3, h3', ht, hl]
            · have hl' : a ≤ term := by omega
              by_cases he : term = a
              · subst he
                by_cases hm : b = 1099511627776
                · subst hm
                  simp (maxSteps := 10000000) +contextual [go_sem, q3_27, q3_45, r41, r26, nextV, hc, h1, h1', h3, h3', ht, hl, hl']
                · simp (maxSteps := 10000000) +contextual [go_sem, q3_27, q3_45, r41, r26, nextV, hc, h1, h1', h3, h3', ht, hl, hl', hm, hw]
              · simp (maxSteps := 10000000) +contextual [go_sem, q3_27, q3_45, r41, r26, nextV, hc, h1, h1', h3, h3', ht, hl, hl', he]
          · simp (maxSteps := 10000000) +contextual [go_sem, q3_27, q3_45, r41, r26, nextV, hc, h1, h1', h3, h3', ht]
    · have hc2 := (check_cases a b c).resolve_left hc
      simp (maxSteps := 10000000) +contextual [go_sem, q3_27, q3_45, r41, r26, nextV, hc2]
  · simp at h
def r37 : List AVal → Option AVal
  | [.int .i64 a, .int .i64 b, .int .i64 c] => some (.agg [.int .i64 a, .int .i64 b, .int .i64 c])
  | _ => none
def r38 : List AVal → Option AVal
  | [] => some (.agg [.int .i64 0, .int .i64 0, .int .i64 3])
  | _ => none
theorem s37 : Sound Try.prog 37 (pspec r37) := by
  refine (fun_sound none_sound none_soundD mixed Try.func37 cal37 comp37).pspec (φ := denF none2 none2 c37) fun args v h => ?_
  unfold r37 at h
  split at h
  · simp only [Option.some.injEq] at h; subst h
    rename_i a b c
    refine ⟨by simp [AVal.scals, AVal.scal], by simp [AVal.scals, AVal.scal], ?_⟩
    unfold c37
    simp (maxSteps := 10000000) +contextual [go_sem]
  · simp at h
theorem s38 : Sound Try.prog 38 (pspec r38) := by
  refine (fun_sound none_sound none_soundD mixed Try.func38 cal38 comp38).pspec (φ := denF none2 none2 c38) fun args v h => ?_
  unfold r38 at h
  split at h
  · simp only [Option.some.injEq] at h; subst h
    skip
    refine ⟨by simp [AVal.scals, AVal.scal], by simp [AVal.scals, AVal.scal], ?_⟩
    unfold c38
    simp (maxSteps := 10000000) +contextual [go_sem]
  · simp at h
def Ψ4 : Phi := updP (updP (updP (updP (updP (updP (Ψ3) 32 (pspec r32)) 33 (pspec r32)) 35 (pspec r35)) 36 (pspec r35)) 37 (pspec r37)) 38 (pspec r38)
theorem oq4 : ∀ f, Sound Try.prog f (Ψ4 f) := updP_ok (updP_ok (updP_ok (updP_ok (updP_ok (updP_ok (oq3) s32) s33) s35) s36) s37) s38
theorem q4_32 (l : List AVal) (H : AHeap) : Ψ4 32 l H = pspec r32 l H := (rfl)
theorem q4_33 (l : List AVal) (H : AHeap) : Ψ4 33 l H = pspec r32 l H := (rfl)
theorem q4_35 (l : List AVal) (H : AHeap) : Ψ4 35 l H = pspec r35 l H := (rfl)
theorem q4_36 (l : List AVal) (H : AHeap) : Ψ4 36 l H = pspec r35 l H := (rfl)
theorem q4_37 (l : List AVal) (H : AHeap) : Ψ4 37 l H = pspec r37 l H := (rfl)
theorem q4_38 (l : List AVal) (H : AHeap) : Ψ4 38 l H = pspec r38 l H := (rfl)
theorem q4_26 (l : List AVal) (H : AHeap) : Ψ4 26 l H = pspec r26 l H := (rfl)
theorem q4_27 (l : List AVal) (H : AHeap) : Ψ4 27 l H = pspec r26 l H := (rfl)
theorem q4_28 (l : List AVal) (H : AHeap) : Ψ4 28 l H = pspec r28 l H := (rfl)
theorem q4_29 (l : List AVal) (H : AHeap) : Ψ4 29 l H = pspec r28 l H := (rfl)
theorem q4_30 (l : List AVal) (H : AHeap) : Ψ4 30 l H = pspec r30 l H := (rfl)
theorem q4_31 (l : List AVal) (H : AHeap) : Ψ4 31 l H = pspec r30 l H := (rfl)
theorem s34 : Sound Try.prog 34 (pspec r23) := by
  refine (fun_sound oq4 none_soundD mixed Try.func34 cal34 comp34).pspec (φ := denF Ψ4 none2 c34) fun args v h => ?_
  unfold r23 at h
  split at h
  · simp only [Option.some.injEq] at h; subst h
    exact ⟨rfl, rfl, closed_ok (by kernel_rfl)⟩
  · simp at h
def Ψ5 : Phi := updP (Ψ4) 34 (pspec r23)
theorem oq5 : ∀ f, Sound Try.prog f (Ψ5 f) := updP_ok (oq4) s34
theorem q5_34 (l : List AVal) (H : AHeap) : Ψ5 34 l H = pspec r23 l H := (rfl)
theorem q5_32 (l : List AVal) (H : AHeap) : Ψ5 32 l H = pspec r32 l H := (rfl)
theorem q5_33 (l : List AVal) (H : AHeap) : Ψ5 33 l H = pspec r32 l H := (rfl)
theorem q5_35 (l : List AVal) (H : AHeap) : Ψ5 35 l H = pspec r35 l H := (rfl)
theorem q5_36 (l : List AVal) (H : AHeap) : Ψ5 36 l H = pspec r35 l H := (rfl)
theorem q5_37 (l : List AVal) (H : AHeap) : Ψ5 37 l H = pspec r37 l H := (rfl)
theorem q5_38 (l : List AVal) (H : AHeap) : Ψ5 38 l H = pspec r38 l H := (rfl)
theorem q5_26 (l : List AVal) (H : AHeap) : Ψ5 26 l H = pspec r26 l H := (rfl)
theorem q5_27 (l : List AVal) (H : AHeap) : Ψ5 27 l H = pspec r26 l H := (rfl)
theorem q5_28 (l : List AVal) (H : AHeap) : Ψ5 28 l H = pspec r28 l H := (rfl)
theorem q5_29 (l : List AVal) (H : AHeap) : Ψ5 29 l H = pspec r28 l H := (rfl)
theorem q5_30 (l : List AVal) (H : AHeap) : Ψ5 30 l H = pspec r30 l H := (rfl)
theorem q5_31 (l : List AVal) (H : AHeap) : Ψ5 31 l H = pspec r30 l H := (rfl)
theorem s11 : Sound Try.prog 11 (pspec r23) := by
  refine (fun_sound oq5 none_soundD mixed Try.func11 cal11 comp11).pspec (φ := denF Ψ5 none2 c11) fun args v h => ?_
  unfold r23 at h
  split at h
  · simp only [Option.some.injEq] at h; subst h
    exact ⟨rfl, rfl, closed_ok (by kernel_rfl)⟩
  · simp at h
def r9 : List AVal → Option AVal
  | [.agg [.int .i64 _, .int .i64 _, .int .i64 _], .agg [.int .i64 _, .int .i64 _, .int .i64 _], .int .i64 _] => some (.bool true)
  | _ => none
def r10 : List AVal → Option AVal
  | [.agg [.int .i64 _, .int .i64 _, .int .i64 _], .int .i64 _, .int .i64 _] => some (.bool true)
  | _ => none
theorem s9 : Sound Try.prog 9 (pspec r9) := by
  refine (fun_sound oq5 none_soundD mixed Try.func9 cal9 comp9).pspec (φ := denF Ψ5 none2 c9) fun args v h => ?_
  unfold r9 at h
  split at h
  · simp only [Option.some.injEq] at h; subst h
    skip
    refine ⟨by simp [AVal.scals, AVal.scal], by simp [AVal.scals, AVal.scal], ?_⟩
    unfold c9
    simp (maxSteps := 10000000) +contextual [go_sem, q5_26, q5_27, q5_28, q5_29, q5_30, q5_31, q5_32, q5_33, q5_34, r26, r28, r30, r32, r23]
  · simp at h
theorem s10 : Sound Try.prog 10 (pspec r10) := by
  refine (fun_sound oq5 none_soundD mixed Try.func10 cal10 comp10).pspec (φ := denF Ψ5 none2 c10) fun args v h => ?_
  unfold r10 at h
  split at h
  · simp only [Option.some.injEq] at h; subst h
    skip
    refine ⟨by simp [AVal.scals, AVal.scal], by simp [AVal.scals, AVal.scal], ?_⟩
    unfold c10
    simp (maxSteps := 10000000) +contextual [go_sem, q5_35, q5_36, q5_34, r35, r23]
  · simp at h
end Go.Eng.SeatA

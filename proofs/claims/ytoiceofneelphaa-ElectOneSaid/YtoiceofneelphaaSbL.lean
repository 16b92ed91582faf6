/- Layers 19 and 18: what the plain functions answer. -/
import Derived.Test.YtoiceofneelphaaSbF
import Derived.Test.YtoiceofneelphaaEngZR
import Derived.IntWalk
set_option linter.unusedSimpArgs false
set_option linter.unusedVariables false
set_option maxHeartbeats 40000000
namespace Go.Eng.SeatB
open Go.Proofs
theorem mixed : Try.prog.follows .mixedOrders = true := by kernel_rfl
def inL (n : Int) : Bool := decide (0 ≤ n) && decide (n ≤ 1099511627776)
def leftL (s n : Int) : Int := if inL s = true ∧ inL n = true ∧ s ≤ n then (if n - s < 900 then 900 - (n - s) else 0) else 0
def validL (s n : Int) : Bool := inL s && inL n && decide (s ≤ n) && decide (n - s < 900)
theorem left_pos (s n : Int) : decide (0 < leftL s n) = validL s n := by
  unfold validL leftL
  by_cases h : inL s = true ∧ inL n = true ∧ s ≤ n
  · obtain ⟨a, b, c⟩ := h
    by_cases h2 : n - s < 900
    · simp only [a, b, c, h2, and_self, if_true, decide_true, Bool.and_self]
      exact decide_eq_true (by omega)
    · simp [a, b, c, h2]
  · rw [if_neg h]
    cases h1 : inL s <;> cases h3 : inL n <;> simp_all
    all_goals (intros; omega)
def agoL (a b c : Int) : Bool := inL a && inL b && decide (a ≤ b) && decide (c ≤ b - a)
def mayN (node term : Int) : Bool := (decide (node = 0) || decide (node = 1)) && inL term
def fromL (node who : Int) : Bool := decide (0 ≤ who) && decide (who < 3) && !decide (who = node)
def aboveL (t own : Int) : Int := if own < t then t else 0
def dueL (node a b x y : Int) : Bool := (decide (node = 0) && agoL a b x) || (decide (node = 1) && agoL a b (x + y))
def rIn : List AVal → Option AVal
  | [.int .i64 n] => some (.bool (inL n))
  | _ => none
def rMay : List AVal → Option AVal
  | [.int .i64 n, .int .i64 t] => some (.bool (mayN n t))
  | _ => none
def rFrom : List AVal → Option AVal
  | [.int .i64 n, .int .i64 w] => some (.bool (fromL n w))
  | _ => none
def rAbove : List AVal → Option AVal
  | [.int .i64 t, .int .i64 o] => some (.int .i64 (aboveL t o))
  | _ => none
def rSince : List AVal → Option AVal
  | [.int .i64 a, .int .i64 b] => some (.int .i64 (IntKind.i64.wrap (a - b)))
  | _ => none
def rLeft : List AVal → Option AVal
  | [.int .i64 s, .int .i64 n] => some (.int .i64 (leftL s n))
  | _ => none
def rValid : List AVal → Option AVal
  | [.int .i64 s, .int .i64 n] => some (.bool (validL s n))
  | _ => none
def rAgo : List AVal → Option AVal
  | [.int .i64 a, .int .i64 b, .int .i64 c] => some (.bool (agoL a b c))
  | _ => none
def rDue : List AVal → Option AVal
  | [.int .i64 n, .int .i64 a, .int .i64 b] => some (.bool (dueL n a b 1200 500))
  | _ => none
def rAgain : List AVal → Option AVal
  | [.int .i64 n, .int .i64 a, .int .i64 b] => some (.bool (dueL n a b 400 300))
  | _ => none
def rBeats : List AVal → Option AVal
  | [.int .i64 a, .int .i64 b] => some (.bool (agoL a b 200))
  | _ => none
theorem s72 : Sound Try.prog 72 (pspec rIn) := by
  refine (fun_sound none_sound none_soundD mixed Try.func72 cal72 comp72).pspec (φ := denF none2 none2 c72) fun args v h => ?_
  unfold rIn at h
  split at h
  · simp only [Option.some.injEq] at h; subst h
    refine ⟨by simp [AVal.scals, AVal.scal], by simp [AVal.scals, AVal.scal], ?_⟩
    unfold c72
    simp (maxSteps := 10000000) +contextual [go_sem]
    all_goals repeat' split
    all_goals refine ansE_bool ?_
    all_goals simp only [inL, IntKind.wrap_i64] at *
    all_goals (try simp_all)
    all_goals (try omega)
  · simp at h
theorem s73 : Sound Try.prog 73 (pspec rIn) := by
  refine (fun_sound none_sound none_soundD mixed Try.func73 cal73 comp73).pspec (φ := denF none2 none2 c73) fun args v h => ?_
  unfold rIn at h
  split at h
  · simp only [Option.some.injEq] at h; subst h
    refine ⟨by simp [AVal.scals, AVal.scal], by simp [AVal.scals, AVal.scal], ?_⟩
    unfold c73
    simp (maxSteps := 10000000) +contextual [go_sem]
    all_goals repeat' split
    all_goals refine ansE_bool ?_
    all_goals simp only [inL, IntKind.wrap_i64] at *
    all_goals (try simp_all)
    all_goals (try omega)
  · simp at h
theorem s74 : Sound Try.prog 74 (pspec rIn) := by
  refine (fun_sound none_sound none_soundD mixed Try.func74 cal74 comp74).pspec (φ := denF none2 none2 c74) fun args v h => ?_
  unfold rIn at h
  split at h
  · simp only [Option.some.injEq] at h; subst h
    refine ⟨by simp [AVal.scals, AVal.scal], by simp [AVal.scals, AVal.scal], ?_⟩
    unfold c74
    simp (maxSteps := 10000000) +contextual [go_sem]
    all_goals repeat' split
    all_goals refine ansE_bool ?_
    all_goals simp only [inL, IntKind.wrap_i64] at *
    all_goals (try simp_all)
    all_goals (try omega)
  · simp at h
theorem s109 : Sound Try.prog 109 (pspec rIn) := by
  refine (fun_sound none_sound none_soundD mixed Try.func109 cal109 comp109).pspec (φ := denF none2 none2 c109) fun args v h => ?_
  unfold rIn at h
  split at h
  · simp only [Option.some.injEq] at h; subst h
    refine ⟨by simp [AVal.scals, AVal.scal], by simp [AVal.scals, AVal.scal], ?_⟩
    unfold c109
    simp (maxSteps := 10000000) +contextual [go_sem]
    all_goals repeat' split
    all_goals refine ansE_bool ?_
    all_goals simp only [inL, IntKind.wrap_i64] at *
    all_goals (try simp_all)
    all_goals (try omega)
  · simp at h
theorem s124 : Sound Try.prog 124 (pspec rIn) := by
  refine (fun_sound none_sound none_soundD mixed Try.func124 cal124 comp124).pspec (φ := denF none2 none2 c124) fun args v h => ?_
  unfold rIn at h
  split at h
  · simp only [Option.some.injEq] at h; subst h
    refine ⟨by simp [AVal.scals, AVal.scal], by simp [AVal.scals, AVal.scal], ?_⟩
    unfold c124
    simp (maxSteps := 10000000) +contextual [go_sem]
    all_goals repeat' split
    all_goals refine ansE_bool ?_
    all_goals simp only [inL, IntKind.wrap_i64] at *
    all_goals (try simp_all)
    all_goals (try omega)
  · simp at h
theorem s75 : Sound Try.prog 75 (pspec rFrom) := by
  refine (fun_sound none_sound none_soundD mixed Try.func75 cal75 comp75).pspec (φ := denF none2 none2 c75) fun args v h => ?_
  unfold rFrom at h
  split at h
  · simp only [Option.some.injEq] at h; subst h
    refine ⟨by simp [AVal.scals, AVal.scal], by simp [AVal.scals, AVal.scal], ?_⟩
    unfold c75
    simp (maxSteps := 10000000) +contextual [go_sem]
    all_goals repeat' split
    all_goals refine ansE_bool ?_
    all_goals simp only [fromL, IntKind.wrap_i64] at *
    all_goals (try simp_all)
    all_goals (try omega)
  · simp at h
theorem s76 : Sound Try.prog 76 (pspec rAbove) := by
  refine (fun_sound none_sound none_soundD mixed Try.func76 cal76 comp76).pspec (φ := denF none2 none2 c76) fun args v h => ?_
  unfold rAbove at h
  split at h
  · simp only [Option.some.injEq] at h; subst h
    refine ⟨by simp [AVal.scals, AVal.scal], by simp [AVal.scals, AVal.scal], ?_⟩
    unfold c76
    simp (maxSteps := 10000000) +contextual [go_sem]
    all_goals repeat' split
    all_goals refine ansE_int ?_
    all_goals simp only [aboveL, IntKind.wrap_i64] at *
    all_goals (try simp_all)
    all_goals (try omega)
  · simp at h
theorem s78 : Sound Try.prog 78 (pspec rAbove) := by
  refine (fun_sound none_sound none_soundD mixed Try.func78 cal78 comp78).pspec (φ := denF none2 none2 c78) fun args v h => ?_
  unfold rAbove at h
  split at h
  · simp only [Option.some.injEq] at h; subst h
    refine ⟨by simp [AVal.scals, AVal.scal], by simp [AVal.scals, AVal.scal], ?_⟩
    unfold c78
    simp (maxSteps := 10000000) +contextual [go_sem]
    all_goals repeat' split
    all_goals refine ansE_int ?_
    all_goals simp only [aboveL, IntKind.wrap_i64] at *
    all_goals (try simp_all)
    all_goals (try omega)
  · simp at h
theorem s110 : Sound Try.prog 110 (pspec rSince) := by
  refine (fun_sound none_sound none_soundD mixed Try.func110 cal110 comp110).pspec (φ := denF none2 none2 c110) fun args v h => ?_
  unfold rSince at h
  split at h
  · simp only [Option.some.injEq] at h; subst h
    refine ⟨by simp [AVal.scals, AVal.scal], by simp [AVal.scals, AVal.scal], ?_⟩
    unfold c110
    simp (maxSteps := 10000000) +contextual [go_sem]
  · simp at h
def Φ1 : Phi := updP (updP (updP (updP (updP (updP (updP (updP (updP (none2) 72 (pspec rIn)) 73 (pspec rIn)) 74 (pspec rIn)) 109 (pspec rIn)) 124 (pspec rIn)) 75 (pspec rFrom)) 76 (pspec rAbove)) 78 (pspec rAbove)) 110 (pspec rSince)
theorem ok1 : ∀ f, Sound Try.prog f (Φ1 f) := updP_ok (updP_ok (updP_ok (updP_ok (updP_ok (updP_ok (updP_ok (updP_ok (updP_ok (none_sound) s72) s73) s74) s109) s124) s75) s76) s78) s110
theorem p1_72 (l : List AVal) (H : AHeap) : Φ1 72 l H = pspec rIn l H := (rfl)
theorem p1_73 (l : List AVal) (H : AHeap) : Φ1 73 l H = pspec rIn l H := (rfl)
theorem p1_74 (l : List AVal) (H : AHeap) : Φ1 74 l H = pspec rIn l H := (rfl)
theorem p1_109 (l : List AVal) (H : AHeap) : Φ1 109 l H = pspec rIn l H := (rfl)
theorem p1_124 (l : List AVal) (H : AHeap) : Φ1 124 l H = pspec rIn l H := (rfl)
theorem p1_75 (l : List AVal) (H : AHeap) : Φ1 75 l H = pspec rFrom l H := (rfl)
theorem p1_76 (l : List AVal) (H : AHeap) : Φ1 76 l H = pspec rAbove l H := (rfl)
theorem p1_78 (l : List AVal) (H : AHeap) : Φ1 78 l H = pspec rAbove l H := (rfl)
theorem p1_110 (l : List AVal) (H : AHeap) : Φ1 110 l H = pspec rSince l H := (rfl)
theorem s71 : Sound Try.prog 71 (pspec rMay) := by
  refine (fun_sound ok1 none_soundD mixed Try.func71 cal71 comp71).pspec (φ := denF Φ1 none2 c71) fun args v h => ?_
  unfold rMay at h
  split at h
  · simp only [Option.some.injEq] at h; subst h
    refine ⟨by simp [AVal.scals, AVal.scal], by simp [AVal.scals, AVal.scal], ?_⟩
    unfold c71
    simp (maxSteps := 10000000) +contextual [go_sem, p1_72, rIn]
    all_goals repeat' split
    all_goals refine ansE_bool ?_
    all_goals simp only [mayN, IntKind.wrap_i64] at *
    all_goals (try simp_all)
    all_goals (try omega)
  · simp at h
theorem s82 : Sound Try.prog 82 (pspec rLeft) := by
  refine (fun_sound ok1 none_soundD mixed Try.func82 cal82 comp82).pspec (φ := denF Φ1 none2 c82) fun args v h => ?_
  unfold rLeft at h
  split at h
  · simp only [Option.some.injEq] at h; subst h
    refine ⟨by simp [AVal.scals, AVal.scal], by simp [AVal.scals, AVal.scal], ?_⟩
    unfold c82
    simp (maxSteps := 10000000) +contextual [go_sem, p1_109, rIn, p1_110, rSince]
    all_goals repeat' split
    all_goals refine ansE_int ?_
    all_goals simp only [leftL, inL, IntKind.wrap_i64] at *
    all_goals (try simp_all)
    all_goals (try omega)
  · simp at h
theorem s111 : Sound Try.prog 111 (pspec rValid) := by
  refine (fun_sound ok1 none_soundD mixed Try.func111 cal111 comp111).pspec (φ := denF Φ1 none2 c111) fun args v h => ?_
  unfold rValid at h
  split at h
  · simp only [Option.some.injEq] at h; subst h
    refine ⟨by simp [AVal.scals, AVal.scal], by simp [AVal.scals, AVal.scal], ?_⟩
    unfold c111
    simp (maxSteps := 10000000) +contextual [go_sem, p1_124, rIn]
    all_goals repeat' split
    all_goals refine ansE_bool ?_
    all_goals simp only [validL, inL, IntKind.wrap_i64] at *
    all_goals (try simp_all)
    all_goals (try omega)
  · simp at h
theorem s79 : Sound Try.prog 79 (pspec rAgo) := by
  refine (fun_sound ok1 none_soundD mixed Try.func79 cal79 comp79).pspec (φ := denF Φ1 none2 c79) fun args v h => ?_
  unfold rAgo at h
  split at h
  · simp only [Option.some.injEq] at h; subst h
    refine ⟨by simp [AVal.scals, AVal.scal], by simp [AVal.scals, AVal.scal], ?_⟩
    unfold c79
    simp (maxSteps := 10000000) +contextual [go_sem, p1_72, rIn]
    all_goals repeat' split
    all_goals refine ansE_bool ?_
    all_goals simp only [agoL, inL, IntKind.wrap_i64] at *
    all_goals (try simp_all)
    all_goals (try omega)
  · simp at h
theorem s80 : Sound Try.prog 80 (pspec rAgo) := by
  refine (fun_sound ok1 none_soundD mixed Try.func80 cal80 comp80).pspec (φ := denF Φ1 none2 c80) fun args v h => ?_
  unfold rAgo at h
  split at h
  · simp only [Option.some.injEq] at h; subst h
    refine ⟨by simp [AVal.scals, AVal.scal], by simp [AVal.scals, AVal.scal], ?_⟩
    unfold c80
    simp (maxSteps := 10000000) +contextual [go_sem, p1_74, rIn]
    all_goals repeat' split
    all_goals refine ansE_bool ?_
    all_goals simp only [agoL, inL, IntKind.wrap_i64] at *
    all_goals (try simp_all)
    all_goals (try omega)
  · simp at h
def Φ2 : Phi := updP (updP (updP (updP (updP (Φ1) 71 (pspec rMay)) 82 (pspec rLeft)) 111 (pspec rValid)) 79 (pspec rAgo)) 80 (pspec rAgo)
theorem ok2 : ∀ f, Sound Try.prog f (Φ2 f) := updP_ok (updP_ok (updP_ok (updP_ok (updP_ok (ok1) s71) s82) s111) s79) s80
theorem p2_72 (l : List AVal) (H : AHeap) : Φ2 72 l H = pspec rIn l H := (rfl)
theorem p2_73 (l : List AVal) (H : AHeap) : Φ2 73 l H = pspec rIn l H := (rfl)
theorem p2_74 (l : List AVal) (H : AHeap) : Φ2 74 l H = pspec rIn l H := (rfl)
theorem p2_109 (l : List AVal) (H : AHeap) : Φ2 109 l H = pspec rIn l H := (rfl)
theorem p2_124 (l : List AVal) (H : AHeap) : Φ2 124 l H = pspec rIn l H := (rfl)
theorem p2_75 (l : List AVal) (H : AHeap) : Φ2 75 l H = pspec rFrom l H := (rfl)
theorem p2_76 (l : List AVal) (H : AHeap) : Φ2 76 l H = pspec rAbove l H := (rfl)
theorem p2_78 (l : List AVal) (H : AHeap) : Φ2 78 l H = pspec rAbove l H := (rfl)
theorem p2_110 (l : List AVal) (H : AHeap) : Φ2 110 l H = pspec rSince l H := (rfl)
theorem p2_71 (l : List AVal) (H : AHeap) : Φ2 71 l H = pspec rMay l H := (rfl)
theorem p2_82 (l : List AVal) (H : AHeap) : Φ2 82 l H = pspec rLeft l H := (rfl)
theorem p2_111 (l : List AVal) (H : AHeap) : Φ2 111 l H = pspec rValid l H := (rfl)
theorem p2_79 (l : List AVal) (H : AHeap) : Φ2 79 l H = pspec rAgo l H := (rfl)
theorem p2_80 (l : List AVal) (H : AHeap) : Φ2 80 l H = pspec rAgo l H := (rfl)
theorem s83 : Sound Try.prog 83 (pspec rLeft) := by
  refine (fun_sound ok2 none_soundD mixed Try.func83 cal83 comp83).pspec (φ := denF Φ2 none2 c83) fun args v h => ?_
  unfold rLeft at h
  split at h
  · simp only [Option.some.injEq] at h; subst h
    refine ⟨by simp [AVal.scals, AVal.scal], by simp [AVal.scals, AVal.scal], ?_⟩
    unfold c83
    simp (maxSteps := 10000000) +contextual [go_sem, p2_111, rValid]
    all_goals repeat' split
    all_goals refine ansE_int ?_
    all_goals simp only [leftL, validL, inL, IntKind.wrap_i64] at *
    all_goals (try simp_all)
    all_goals (try omega)
  · simp at h
theorem s42 : Sound Try.prog 42 (pspec rValid) := by
  refine (fun_sound ok2 none_soundD mixed Try.func42 cal42 comp42).pspec (φ := denF Φ2 none2 c42) fun args v h => ?_
  unfold rValid at h
  split at h
  · simp only [Option.some.injEq] at h; subst h
    refine ⟨by simp [AVal.scals, AVal.scal], by simp [AVal.scals, AVal.scal], ?_⟩
    unfold c42
    simp (maxSteps := 10000000) +contextual [go_sem, p2_82, rLeft, left_pos]
  · simp at h
theorem s23 : Sound Try.prog 23 (pspec rDue) := by
  refine (fun_sound ok2 none_soundD mixed Try.func23 cal23 comp23).pspec (φ := denF Φ2 none2 c23) fun args v h => ?_
  unfold rDue at h
  split at h
  · simp only [Option.some.injEq] at h; subst h
    refine ⟨by simp [AVal.scals, AVal.scal], by simp [AVal.scals, AVal.scal], ?_⟩
    unfold c23
    rename_i n a b
    by_cases h0 : n = 0
    · subst h0; simp (maxSteps := 10000000) +contextual [go_sem, p2_71, rMay, p2_79, rAgo, IntKind.wrap_i64, dueL, mayN, inL]
      all_goals (split <;> simp_all)
    · by_cases h1 : n = 1
      · subst h1; simp (maxSteps := 10000000) +contextual [go_sem, p2_71, rMay, p2_79, rAgo, IntKind.wrap_i64, dueL, mayN, inL]
        all_goals (split <;> simp_all)
      · simp (maxSteps := 10000000) +contextual [go_sem, p2_71, rMay, p2_79, rAgo, IntKind.wrap_i64, dueL, mayN, inL, h0, h1]
  · simp at h
theorem s24 : Sound Try.prog 24 (pspec rDue) := by
  refine (fun_sound ok2 none_soundD mixed Try.func24 cal24 comp24).pspec (φ := denF Φ2 none2 c24) fun args v h => ?_
  unfold rDue at h
  split at h
  · simp only [Option.some.injEq] at h; subst h
    refine ⟨by simp [AVal.scals, AVal.scal], by simp [AVal.scals, AVal.scal], ?_⟩
    unfold c24
    rename_i n a b
    by_cases h0 : n = 0
    · subst h0; simp (maxSteps := 10000000) +contextual [go_sem, p2_80, rAgo, IntKind.wrap_i64, dueL, mayN, inL]
      all_goals (split <;> simp_all)
    · by_cases h1 : n = 1
      · subst h1; simp (maxSteps := 10000000) +contextual [go_sem, p2_80, rAgo, IntKind.wrap_i64, dueL, mayN, inL]
        all_goals (split <;> simp_all)
      · simp (maxSteps := 10000000) +contextual [go_sem, p2_80, rAgo, IntKind.wrap_i64, dueL, mayN, inL, h0, h1]
  · simp at h
theorem s25 : Sound Try.prog 25 (pspec rAgain) := by
  refine (fun_sound ok2 none_soundD mixed Try.func25 cal25 comp25).pspec (φ := denF Φ2 none2 c25) fun args v h => ?_
  unfold rAgain at h
  split at h
  · simp only [Option.some.injEq] at h; subst h
    refine ⟨by simp [AVal.scals, AVal.scal], by simp [AVal.scals, AVal.scal], ?_⟩
    unfold c25
    rename_i n a b
    by_cases h0 : n = 0
    · subst h0; simp (maxSteps := 10000000) +contextual [go_sem, p2_71, rMay, p2_79, rAgo, IntKind.wrap_i64, dueL, mayN, inL]
      all_goals (split <;> simp_all)
    · by_cases h1 : n = 1
      · subst h1; simp (maxSteps := 10000000) +contextual [go_sem, p2_71, rMay, p2_79, rAgo, IntKind.wrap_i64, dueL, mayN, inL]
        all_goals (split <;> simp_all)
      · simp (maxSteps := 10000000) +contextual [go_sem, p2_71, rMay, p2_79, rAgo, IntKind.wrap_i64, dueL, mayN, inL, h0, h1]
  · simp at h
theorem s26 : Sound Try.prog 26 (pspec rAgain) := by
  refine (fun_sound ok2 none_soundD mixed Try.func26 cal26 comp26).pspec (φ := denF Φ2 none2 c26) fun args v h => ?_
  unfold rAgain at h
  split at h
  · simp only [Option.some.injEq] at h; subst h
    refine ⟨by simp [AVal.scals, AVal.scal], by simp [AVal.scals, AVal.scal], ?_⟩
    unfold c26
    rename_i n a b
    by_cases h0 : n = 0
    · subst h0; simp (maxSteps := 10000000) +contextual [go_sem, p2_80, rAgo, IntKind.wrap_i64, dueL, mayN, inL]
      all_goals (split <;> simp_all)
    · by_cases h1 : n = 1
      · subst h1; simp (maxSteps := 10000000) +contextual [go_sem, p2_80, rAgo, IntKind.wrap_i64, dueL, mayN, inL]
        all_goals (split <;> simp_all)
      · simp (maxSteps := 10000000) +contextual [go_sem, p2_80, rAgo, IntKind.wrap_i64, dueL, mayN, inL, h0, h1]
  · simp at h
theorem s27 : Sound Try.prog 27 (pspec rBeats) := by
  refine (fun_sound ok2 none_soundD mixed Try.func27 cal27 comp27).pspec (φ := denF Φ2 none2 c27) fun args v h => ?_
  unfold rBeats at h
  split at h
  · simp only [Option.some.injEq] at h; subst h
    refine ⟨by simp [AVal.scals, AVal.scal], by simp [AVal.scals, AVal.scal], ?_⟩
    unfold c27
    simp (maxSteps := 10000000) +contextual [go_sem, p2_79, rAgo]
    all_goals repeat' split
    all_goals refine ansE_bool ?_
    all_goals simp only [agoL, inL, IntKind.wrap_i64] at *
    all_goals (try simp_all)
    all_goals (try omega)
  · simp at h
theorem s28 : Sound Try.prog 28 (pspec rBeats) := by
  refine (fun_sound ok2 none_soundD mixed Try.func28 cal28 comp28).pspec (φ := denF Φ2 none2 c28) fun args v h => ?_
  unfold rBeats at h
  split at h
  · simp only [Option.some.injEq] at h; subst h
    refine ⟨by simp [AVal.scals, AVal.scal], by simp [AVal.scals, AVal.scal], ?_⟩
    unfold c28
    simp (maxSteps := 10000000) +contextual [go_sem, p2_80, rAgo]
    all_goals repeat' split
    all_goals refine ansE_bool ?_
    all_goals simp only [agoL, inL, IntKind.wrap_i64] at *
    all_goals (try simp_all)
    all_goals (try omega)
  · simp at h
def Φ3 : Phi := updP (updP (updP (updP (updP (updP (updP (updP (Φ2) 83 (pspec rLeft)) 42 (pspec rValid)) 23 (pspec rDue)) 24 (pspec rDue)) 25 (pspec rAgain)) 26 (pspec rAgain)) 27 (pspec rBeats)) 28 (pspec rBeats)
theorem ok3 : ∀ f, Sound Try.prog f (Φ3 f) := updP_ok (updP_ok (updP_ok (updP_ok (updP_ok (updP_ok (updP_ok (updP_ok (ok2) s83) s42) s23) s24) s25) s26) s27) s28
theorem p3_72 (l : List AVal) (H : AHeap) : Φ3 72 l H = pspec rIn l H := (rfl)
theorem p3_73 (l : List AVal) (H : AHeap) : Φ3 73 l H = pspec rIn l H := (rfl)
theorem p3_74 (l : List AVal) (H : AHeap) : Φ3 74 l H = pspec rIn l H := (rfl)
theorem p3_109 (l : List AVal) (H : AHeap) : Φ3 109 l H = pspec rIn l H := (rfl)
theorem p3_124 (l : List AVal) (H : AHeap) : Φ3 124 l H = pspec rIn l H := (rfl)
theorem p3_75 (l : List AVal) (H : AHeap) : Φ3 75 l H = pspec rFrom l H := (rfl)
theorem p3_76 (l : List AVal) (H : AHeap) : Φ3 76 l H = pspec rAbove l H := (rfl)
theorem p3_78 (l : List AVal) (H : AHeap) : Φ3 78 l H = pspec rAbove l H := (rfl)
theorem p3_110 (l : List AVal) (H : AHeap) : Φ3 110 l H = pspec rSince l H := (rfl)
theorem p3_71 (l : List AVal) (H : AHeap) : Φ3 71 l H = pspec rMay l H := (rfl)
theorem p3_82 (l : List AVal) (H : AHeap) : Φ3 82 l H = pspec rLeft l H := (rfl)
theorem p3_111 (l : List AVal) (H : AHeap) : Φ3 111 l H = pspec rValid l H := (rfl)
theorem p3_79 (l : List AVal) (H : AHeap) : Φ3 79 l H = pspec rAgo l H := (rfl)
theorem p3_80 (l : List AVal) (H : AHeap) : Φ3 80 l H = pspec rAgo l H := (rfl)
theorem p3_83 (l : List AVal) (H : AHeap) : Φ3 83 l H = pspec rLeft l H := (rfl)
theorem p3_42 (l : List AVal) (H : AHeap) : Φ3 42 l H = pspec rValid l H := (rfl)
theorem p3_23 (l : List AVal) (H : AHeap) : Φ3 23 l H = pspec rDue l H := (rfl)
theorem p3_24 (l : List AVal) (H : AHeap) : Φ3 24 l H = pspec rDue l H := (rfl)
theorem p3_25 (l : List AVal) (H : AHeap) : Φ3 25 l H = pspec rAgain l H := (rfl)
theorem p3_26 (l : List AVal) (H : AHeap) : Φ3 26 l H = pspec rAgain l H := (rfl)
theorem p3_27 (l : List AVal) (H : AHeap) : Φ3 27 l H = pspec rBeats l H := (rfl)
theorem p3_28 (l : List AVal) (H : AHeap) : Φ3 28 l H = pspec rBeats l H := (rfl)
end Go.Eng.SeatB

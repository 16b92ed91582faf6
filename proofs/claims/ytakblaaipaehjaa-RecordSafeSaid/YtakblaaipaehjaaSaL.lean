/- Layer 16: what its functions answer. -/
import Derived.Test.YtakblaaipaehjaaSaF
import Derived.Test.YtakblaaipaehjaaEngZR
import Derived.IntWalk
set_option linter.unusedSimpArgs false
set_option linter.unusedVariables false
set_option maxHeartbeats 40000000
namespace Go.Eng.SeatA
open Go.Proofs
theorem mixed : Try.prog.follows .mixedOrders = true := by kernel_rfl

def mayL (n : Int) : Bool := decide (0 ≤ n) && decide (n ≤ 1099511627776)
def leftL (s n : Int) : Int := if mayL s = true ∧ mayL n = true ∧ s ≤ n then (if n - s < 900 then 900 - (n - s) else 0) else 0
def validL (s n : Int) : Bool := mayL s && mayL n && decide (s ≤ n) && decide (n - s < 900)
def holdsL (to fr now : Int) : Bool := !decide (to = -1) && (!mayL fr || !mayL now || decide (now - fr < 1100))
def barsL (to fr node now : Int) : Bool := holdsL to fr now && (decide (to = -2) || !decide (to = node))
def r41 : List AVal → Option AVal
  | [.int .i64 n] => some (.bool (mayL n))
  | _ => none
def r42 : List AVal → Option AVal
  | [.int .i64 a, .int .i64 b] => some (.int .i64 (IntKind.i64.wrap (a - b)))
  | _ => none
def r43 : List AVal → Option AVal
  | [] => some (.agg [.int .i64 90, .int .i64 110])
  | _ => none
def r17 : List AVal → Option AVal
  | [.int .i64 s, .int .i64 n] => some (.int .i64 (leftL s n))
  | _ => none
def r15 : List AVal → Option AVal
  | [.int .i64 s, .int .i64 n] => some (.bool (validL s n))
  | _ => none
def r19 : List AVal → Option AVal
  | [.agg [.int .i64 to, .int .i64 fr], .int .i64 n] => some (.bool (holdsL to fr n))
  | _ => none
def r21 : List AVal → Option AVal
  | [.agg [.int .i64 to, .int .i64 fr], .int .i64 node, .int .i64 n] => some (.bool (barsL to fr node n))
  | _ => none
theorem s41 : Sound Try.prog 41 (pspec r41) := by
  refine (fun_sound none_sound none_soundD mixed Try.func41 cal41 comp41).pspec (φ := denF none2 none2 c41) fun args v h => ?_
  unfold r41 at h
  split at h
  · simp only [Option.some.injEq] at h; subst h
    rename_i n
    refine ⟨by simp [AVal.scals, AVal.scal], by simp [AVal.scals, AVal.scal], ?_⟩
    unfold c41
    simp (maxSteps := 10000000) +contextual [go_sem]
    all_goals repeat' split
    all_goals refine ansE_bool ?_
    all_goals simp only [mayL, IntKind.wrap_i64] at *
    all_goals simp_all
    all_goals omega
  · simp at h
theorem s40 : Sound Try.prog 40 (pspec r41) := by
  refine (fun_sound none_sound none_soundD mixed Try.func40 cal40 comp40).pspec (φ := denF none2 none2 c40) fun args v h => ?_
  unfold r41 at h
  split at h
  · simp only [Option.some.injEq] at h; subst h
    rename_i n
    refine ⟨by simp [AVal.scals, AVal.scal], by simp [AVal.scals, AVal.scal], ?_⟩
    unfold c40
    simp (maxSteps := 10000000) +contextual [go_sem]
    all_goals repeat' split
    all_goals refine ansE_bool ?_
    all_goals simp only [mayL, IntKind.wrap_i64] at *
    all_goals simp_all
    all_goals omega
  · simp at h
theorem s42 : Sound Try.prog 42 (pspec r42) := by
  refine (fun_sound none_sound none_soundD mixed Try.func42 cal42 comp42).pspec (φ := denF none2 none2 c42) fun args v h => ?_
  unfold r42 at h
  split at h
  · simp only [Option.some.injEq] at h; subst h
    refine ⟨by simp [AVal.scals, AVal.scal], by simp [AVal.scals, AVal.scal], ?_⟩
    unfold c42
    simp (maxSteps := 10000000) +contextual [go_sem]
  · simp at h
theorem s43 : Sound Try.prog 43 (pspec r43) := by
  refine (fun_sound none_sound none_soundD mixed Try.func43 cal43 comp43).pspec (φ := denF none2 none2 c43) fun args v h => ?_
  unfold r43 at h
  split at h
  · simp only [Option.some.injEq] at h; subst h
    refine ⟨by simp [AVal.scals, AVal.scal], by simp [AVal.scals, AVal.scal], ?_⟩
    unfold c43
    simp (maxSteps := 10000000) +contextual [go_sem]
  · simp at h
def Φ1 : Phi := updP (updP (updP (updP (none2) 40 (pspec r41)) 41 (pspec r41)) 42 (pspec r42)) 43 (pspec r43)
theorem ok1 : ∀ f, Sound Try.prog f (Φ1 f) := updP_ok (updP_ok (updP_ok (updP_ok (none_sound) s40) s41) s42) s43
theorem s17 : Sound Try.prog 17 (pspec r17) := by
  refine (fun_sound ok1 none_soundD mixed Try.func17 cal17 comp17).pspec (φ := denF Φ1 none2 c17) fun args v h => ?_
  unfold r17 at h
  split at h
  · simp only [Option.some.injEq] at h; subst h
    rename_i s n
    refine ⟨by simp [AVal.scals, AVal.scal], by simp [AVal.scals, AVal.scal], ?_⟩
    unfold c17
    simp (maxSteps := 10000000) +contextual [go_sem, Φ1, r41, r42]
    all_goals repeat' split
    all_goals refine ansE_int ?_
    all_goals simp only [leftL, mayL, IntKind.wrap_i64] at *
    all_goals simp_all
    all_goals omega
  · simp at h
theorem s19 : Sound Try.prog 19 (pspec r19) := by
  refine (fun_sound ok1 none_soundD mixed Try.func19 cal19 comp19).pspec (φ := denF Φ1 none2 c19) fun args v h => ?_
  unfold r19 at h
  split at h
  · simp only [Option.some.injEq] at h; subst h
    rename_i to fr n
    refine ⟨by simp [AVal.scals, AVal.scal], by simp [AVal.scals, AVal.scal], ?_⟩
    unfold c19
    simp (maxSteps := 10000000) +contextual [go_sem, Φ1, r41, r42]
    all_goals repeat' split
    all_goals refine ansE_bool ?_
    all_goals simp only [holdsL, mayL, IntKind.wrap_i64] at *
    all_goals simp_all
    all_goals omega
  · simp at h
theorem s16 : Sound Try.prog 16 (pspec r15) := by
  refine (fun_sound ok1 none_soundD mixed Try.func16 cal16 comp16).pspec (φ := denF Φ1 none2 c16) fun args v h => ?_
  unfold r15 at h
  split at h
  · simp only [Option.some.injEq] at h; subst h
    rename_i s n
    refine ⟨by simp [AVal.scals, AVal.scal], by simp [AVal.scals, AVal.scal], ?_⟩
    unfold c16
    simp (maxSteps := 10000000) +contextual [go_sem, Φ1, r41, r42]
    all_goals repeat' split
    all_goals refine ansE_bool ?_
    all_goals simp only [validL, mayL, IntKind.wrap_i64] at *
    all_goals simp_all
    all_goals omega
  · simp at h
def Φ2 : Phi := updP (updP (updP (Φ1) 17 (pspec r17)) 16 (pspec r15)) 19 (pspec r19)
theorem ok2 : ∀ f, Sound Try.prog f (Φ2 f) := updP_ok (updP_ok (updP_ok (ok1) s17) s16) s19
theorem s15 : Sound Try.prog 15 (pspec r15) := by
  refine (fun_sound ok2 none_soundD mixed Try.func15 cal15 comp15).pspec (φ := denF Φ2 none2 c15) fun args v h => ?_
  unfold r15 at h
  split at h
  · simp only [Option.some.injEq] at h; subst h
    rename_i s n
    refine ⟨by simp [AVal.scals, AVal.scal], by simp [AVal.scals, AVal.scal], ?_⟩
    unfold c15
    simp (maxSteps := 10000000) +contextual [go_sem, Φ2, r17]
    simp only [leftL, validL, mayL]
    rw [Bool.eq_iff_iff]
    simp only [decide_eq_true_eq, Bool.and_eq_true]
    repeat' split
    all_goals omega
  · simp at h
theorem s18 : Sound Try.prog 18 (pspec r17) := by
  refine (fun_sound ok2 none_soundD mixed Try.func18 cal18 comp18).pspec (φ := denF Φ2 none2 c18) fun args v h => ?_
  unfold r17 at h
  split at h
  · simp only [Option.some.injEq] at h; subst h
    rename_i s n
    refine ⟨by simp [AVal.scals, AVal.scal], by simp [AVal.scals, AVal.scal], ?_⟩
    unfold c18
    simp (maxSteps := 10000000) +contextual [go_sem, Φ2, Φ1, r15, r41]
    all_goals repeat' split
    all_goals refine ansE_int ?_
    all_goals simp only [leftL, validL, mayL, IntKind.wrap_i64] at *
    all_goals simp_all
    all_goals omega
  · simp at h
theorem s20 : Sound Try.prog 20 (pspec r19) := by
  refine (fun_sound ok2 none_soundD mixed Try.func20 cal20 comp20).pspec (φ := denF Φ2 none2 c20) fun args v h => ?_
  unfold r19 at h
  split at h
  · simp only [Option.some.injEq] at h; subst h
    rename_i to fr n
    refine ⟨by simp [AVal.scals, AVal.scal], by simp [AVal.scals, AVal.scal], ?_⟩
    unfold c20
    simp (maxSteps := 10000000) +contextual [go_sem, Φ2, Φ1, r41]
    all_goals repeat' split
    all_goals refine ansE_bool ?_
    all_goals simp only [holdsL, mayL, IntKind.wrap_i64] at *
    all_goals simp_all
    all_goals omega
  · simp at h
def Φ3 : Phi := updP (updP (updP (Φ2) 15 (pspec r15)) 18 (pspec r17)) 20 (pspec r19)
theorem ok3 : ∀ f, Sound Try.prog f (Φ3 f) := updP_ok (updP_ok (updP_ok (ok2) s15) s18) s20
theorem s21 : Sound Try.prog 21 (pspec r21) := by
  refine (fun_sound ok3 none_soundD mixed Try.func21 cal21 comp21).pspec (φ := denF Φ3 none2 c21) fun args v h => ?_
  unfold r21 at h
  split at h
  · simp only [Option.some.injEq] at h; subst h
    rename_i to fr node n
    refine ⟨by simp [AVal.scals, AVal.scal], by simp [AVal.scals, AVal.scal], ?_⟩
    unfold c21
    simp (maxSteps := 10000000) +contextual [go_sem, Φ3, Φ2, r19]
    all_goals repeat' split
    all_goals refine ansE_bool ?_
    all_goals simp only [barsL, IntKind.wrap_i64] at *
    all_goals simp_all
    all_goals omega
  · simp at h
theorem s22 : Sound Try.prog 22 (pspec r21) := by
  refine (fun_sound ok3 none_soundD mixed Try.func22 cal22 comp22).pspec (φ := denF Φ3 none2 c22) fun args v h => ?_
  unfold r21 at h
  split at h
  · simp only [Option.some.injEq] at h; subst h
    rename_i to fr node n
    refine ⟨by simp [AVal.scals, AVal.scal], by simp [AVal.scals, AVal.scal], ?_⟩
    unfold c22
    simp (maxSteps := 10000000) +contextual [go_sem, Φ3, Φ2, r19]
    all_goals repeat' split
    all_goals refine ansE_bool ?_
    all_goals simp only [barsL, IntKind.wrap_i64] at *
    all_goals simp_all
    all_goals omega
  · simp at h
def Φ4 : Phi := updP (updP (Φ3) 21 (pspec r21)) 22 (pspec r21)
theorem ok4 : ∀ f, Sound Try.prog f (Φ4 f) := updP_ok (updP_ok (ok3) s21) s22
def r23 : List AVal → Option AVal
  | [] => some (.bool true)
  | _ => none
theorem s23 : Sound Try.prog 23 (pspec r23) := by
  refine (fun_sound ok4 none_soundD mixed Try.func23 cal23 comp23).pspec (φ := denF Φ4 none2 c23) fun args v h => ?_
  unfold r23 at h
  split at h
  · simp only [Option.some.injEq] at h; subst h
    refine ⟨by simp [AVal.scals, AVal.scal], by simp [AVal.scals, AVal.scal], ?_⟩
    unfold c23
    simp (maxSteps := 10000000) +contextual [go_sem, Φ4, Φ3, Φ2, Φ1, r15, r17, r19, r21, validL, leftL, holdsL, barsL, mayL]
  · simp at h
def Φ5 : Phi := updP (Φ4) 23 (pspec r23)
theorem ok5 : ∀ f, Sound Try.prog f (Φ5 f) := updP_ok (ok4) s23
def r3 : List AVal → Option AVal
  | [.int .i64 stamp, .int .i64 now, .agg [.int .i64 to, .int .i64 fr], .int .i64 node] => some (.bool true)
  | _ => none
theorem s3 : Sound Try.prog 3 (pspec r3) := by
  refine (fun_sound ok5 none_soundD mixed Try.func3 cal3 comp3).pspec (φ := denF Φ5 none2 c3) fun args v h => ?_
  unfold r3 at h
  split at h
  · simp only [Option.some.injEq] at h; subst h
    refine ⟨by simp [AVal.scals, AVal.scal], by simp [AVal.scals, AVal.scal], ?_⟩
    unfold c3
    simp (maxSteps := 10000000) +contextual [go_sem, Φ5, Φ4, Φ3, Φ2, Φ1, r15, r17, r19, r21, r23]
  · simp at h
def r4 : List AVal → Option AVal
  | [.int .i64 stamp, .int .i64 now, .agg [.int .i64 to, .int .i64 fr]] => some (.bool true)
  | _ => none
theorem left_valid (s n : Int) : decide (0 < leftL s n) = validL s n := by
  simp only [leftL, validL, mayL]
  rw [Bool.eq_iff_iff]
  simp only [decide_eq_true_eq, Bool.and_eq_true]
  repeat' split
  all_goals omega
theorem left_lo (s n : Int) : 0 ≤ leftL s n := by
  simp only [leftL]; repeat' split
  all_goals omega
theorem left_hi (s n : Int) : leftL s n ≤ 900 := by
  simp only [leftL, mayL, Bool.and_eq_true, decide_eq_true_eq]; repeat' split
  all_goals omega
theorem left_in (s n : Int) (h : validL s n = true) : mayL s = true ∧ mayL n = true ∧ s ≤ n ∧ n - s < 900 ∧ leftL s n = 900 - (n - s) := by
  simp only [validL, Bool.and_eq_true, decide_eq_true_eq] at h
  refine ⟨h.1.1.1, h.1.1.2, h.1.2, h.2, ?_⟩
  unfold leftL
  rw [if_pos ⟨h.1.1.1, h.1.1.2, h.1.2⟩, if_pos h.2]
theorem left_last (s n : Int) (h : validL s n = true) (hn : n ≤ 1099511626876) : validL s (IntKind.i64.wrap (IntKind.i64.wrap (n + leftL s n) - 1)) = true ∧ validL s (IntKind.i64.wrap (n + leftL s n)) = false := by
  obtain ⟨h1, h2, h3, h4, h5⟩ := left_in s n h
  simp only [mayL, Bool.and_eq_true, decide_eq_true_eq] at h1 h2
  have e : IntKind.i64.wrap (n + leftL s n) = s + 900 := by rw [IntKind.wrap_i64, h5]; omega
  rw [e]
  have e2 : IntKind.i64.wrap (s + 900 - 1) = s + 899 := by rw [IntKind.wrap_i64]; omega
  rw [e2]
  simp [validL, mayL]
  omega
theorem bars_own (to fr now : Int) (h : to ≠ -2) : barsL to fr to now = false := by simp [barsL, h]
theorem bars_seven (to fr now : Int) : barsL to fr 7 now = (holdsL to fr now && !decide (to = 7)) := by
  unfold barsL
  by_cases h : to = -2
  · subst h; simp
  · simp [h]
theorem s4 : Sound Try.prog 4 (pspec r4) := by
  refine (fun_sound ok5 none_soundD mixed Try.func4 cal4 comp4).pspec (φ := denF Φ5 none2 c4) fun args v h => ?_
  unfold r4 at h
  split at h
  · simp only [Option.some.injEq] at h; subst h
    rename_i s n to fr
    refine ⟨by simp [AVal.scals, AVal.scal], by simp [AVal.scals, AVal.scal], ?_⟩
    have h1 := left_valid s n
    have h2 := left_lo s n
    have h3 := left_hi s n
    have h4 := bars_own to fr n
    have h5 := bars_seven to fr n
    have h6 : ¬ leftL s n < 0 := by omega
    have h7 : ¬ 900 < leftL s n := by omega
    unfold c4
    by_cases hv : validL s n = true
    · rw [hv] at h1
      simp only [decide_eq_true_eq] at h1
      by_cases hn : n ≤ 1099511626876
      · obtain ⟨g1, g2⟩ := left_last s n hv hn
        by_cases ht : to = -2
        · subst ht
          simp (maxSteps := 10000000) +contextual [go_sem, Φ5, Φ4, Φ3, Φ2, Φ1, r15, r17, r19, r21, r23, h1, h2, h3, h4, h5, h6, h7, hv, hn, g1, g2]
        · have h4 := h4 ht
          simp (maxSteps := 10000000) +contextual [go_sem, Φ5, Φ4, Φ3, Φ2, Φ1, r15, r17, r19, r21, r23, h1, h2, h3, h4, h5, h6, h7, hv, hn, g1, g2, ht]
      · by_cases ht : to = -2
        · subst ht
          simp (maxSteps := 10000000) +contextual [go_sem, Φ5, Φ4, Φ3, Φ2, Φ1, r15, r17, r19, r21, r23, h1, h2, h3, h4, h5, h6, h7, hv, hn]
        · have h4 := h4 ht
          simp (maxSteps := 10000000) +contextual [go_sem, Φ5, Φ4, Φ3, Φ2, Φ1, r15, r17, r19, r21, r23, h1, h2, h3, h4, h5, h6, h7, hv, hn, ht]
    · have hv : validL s n = false := by simpa using hv
      rw [hv] at h1
      simp only [decide_eq_false_iff_not] at h1
      by_cases ht : to = -2
      · subst ht
        simp (maxSteps := 10000000) +contextual [go_sem, Φ5, Φ4, Φ3, Φ2, Φ1, r15, r17, r19, r21, r23, h1, h2, h3, h4, h5, h6, h7, hv]
      · have h4 := h4 ht
        simp (maxSteps := 10000000) +contextual [go_sem, Φ5, Φ4, Φ3, Φ2, Φ1, r15, r17, r19, r21, r23, h1, h2, h3, h4, h5, h6, h7, hv, ht]
  · simp at h
def Φ6 : Phi := updP Φ5 24 (denF Φ1 none2 c24)
theorem ok6 : ∀ f, Sound Try.prog f (Φ6 f) := updP_ok ok5 (fun_sound ok1 none_soundD mixed Try.func24 cal24 comp24)
def r6 : List AVal → Option AVal
  | [] => some (.bool true)
  | _ => none
theorem s6 : Sound Try.prog 6 (pspec r6) := by
  refine (fun_sound ok6 none_soundD mixed Try.func6 cal6 comp6).pspec (φ := denF Φ6 none2 c6) fun args v h => ?_
  unfold r6 at h
  split at h
  · simp only [Option.some.injEq] at h; subst h
    exact ⟨rfl, rfl, closed_ok (by kernel_rfl)⟩
  · simp at h
end Go.Eng.SeatA

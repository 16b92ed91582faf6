/- Layer 17: RecordOrder. -/
import Derived.Test.YtakblaaipaehjaaSaN
set_option linter.unusedSimpArgs false
set_option linter.unusedVariables false
set_option maxHeartbeats 40000000
namespace Go.Eng.SeatA
open Go.Proofs
def Ψ6 : Phi := updP Ψ5 11 (pspec r23)
theorem oq6 : ∀ f, Sound Try.prog f (Ψ6 f) := updP_ok oq5 s11
theorem q6_11 (l : List AVal) (H : AHeap) : Ψ6 11 l H = pspec r23 l H := (rfl)
theorem q6_26 (l : List AVal) (H : AHeap) : Ψ6 26 l H = pspec r26 l H := (rfl)
theorem q6_28 (l : List AVal) (H : AHeap) : Ψ6 28 l H = pspec r28 l H := (rfl)
theorem q6_30 (l : List AVal) (H : AHeap) : Ψ6 30 l H = pspec r30 l H := (rfl)
theorem q6_32 (l : List AVal) (H : AHeap) : Ψ6 32 l H = pspec r32 l H := (rfl)
theorem q6_34 (l : List AVal) (H : AHeap) : Ψ6 34 l H = pspec r23 l H := (rfl)
theorem q6_35 (l : List AVal) (H : AHeap) : Ψ6 35 l H = pspec r35 l H := (rfl)
def r12 : List AVal → Option AVal
  | [.agg [.int .i64 _, .int .i64 _, .int .i64 _], .agg [.int .i64 _, .int .i64 _, .int .i64 _], .agg [.int .i64 _, .int .i64 _, .int .i64 _], .int .i64 _, .int .i64 _, .int .i64 _] => some (.bool true)
  | _ => none
theorem newer_irr (t n : Int) : newerL t n t n = false := by simp [newerL]
theorem newer_iff (t n u m : Int) : newerL t n u m = true ↔ u < t ∨ (t = u ∧ m < n) := by simp [newerL]
theorem newer_nif (t n u m : Int) : newerL t n u m = false ↔ t < u ∨ (t = u ∧ n ≤ m) := by
  rw [← Bool.not_eq_true, newer_iff]; omega
theorem next_ok (t n s term set : Int) (h : (nextV t n s term set).2.2.2 = 0) : newerL (nextV t n s term set).1 (nextV t n s term set).2.1 t n = true ∧ checkL (nextV t n s term set).1 (nextV t n s term set).2.1 (nextV t n s term set).2.2.1 = 0 ∧ (nextV t n s term set).1 = term ∧ (nextV t n s term set).2.2.1 = set := by
  unfold nextV at h ⊢
  split at h
  · rename_i h1
    rw [if_pos h1]
    obtain ⟨hc, hs1, hs3, ht⟩ := h1
    have hck := hc
    unfold checkL at hck
    split at hck
    · rename_i h2
      simp only [mayL, Bool.and_eq_true, decide_eq_true_eq] at h2 ht
      split at h
      · simp at h
      · rename_i h3
        rw [if_neg h3]
        split at h
        · rename_i h4
          rw [if_pos h4]
          refine ⟨by rw [newer_iff]; simp only; omega, ?_, rfl, rfl⟩
          unfold checkL
          rw [if_pos]
          simp only [mayL, Bool.and_eq_true, decide_eq_true_eq]
          omega
        · rename_i h4
          rw [if_neg h4]
          refine ⟨by rw [newer_iff]; simp only; omega, ?_, rfl, rfl⟩
          unfold checkL
          rw [if_pos]
          simp only [mayL, Bool.and_eq_true, decide_eq_true_eq]
          omega
    · simp at hck
  · simp at h
theorem s12 : Sound Try.prog 12 (pspec r12) := by
  refine (fun_sound oq6 none_soundD mixed Try.func12 cal12 comp12).pspec (φ := denF Ψ6 none2 c12) fun args v h => ?_
  unfold r12 at h
  split at h
  · simp only [Option.some.injEq] at h; subst h
    rename_i ta na sa tb nb sb tc nc sc term set node
    refine ⟨by simp [AVal.scals, AVal.scal], by simp [AVal.scals, AVal.scal], ?_⟩
    have i1 := newer_irr ta na
    have hm : mayR ta na sa node tb nb sb = true → hasL sa node = true ∧ (newerL ta na tb nb = true ∨ hasL sb node = true) := fun h => by
      simp only [mayR, Bool.and_eq_true, Bool.or_eq_true, decide_eq_true_eq] at h
      exact ⟨h.1.2, h.2⟩
    unfold c12
    have f1 : newerL ta na tb nb = true → newerL tb nb ta na = false := fun h => by rw [newer_iff] at h; rw [newer_nif]; omega
    have f2 : newerL ta na tb nb = true → newerL tb nb tc nc = true → newerL ta na tc nc = true := fun h k => by rw [newer_iff] at *; omega
    have f3 : newerL ta na tb nb = false → newerL tb nb ta na = false → ta = tb ∧ na = nb := fun h k => by rw [newer_nif] at *; omega
    have f4 := next_ok ta na sa term set
    cases e1 : newerL ta na tb nb with
    | true =>
      have e2 := f1 e1
      cases e3 : newerL tb nb tc nc with
      | true =>
        have e4 := f2 e1 e3
        by_cases e5 : (nextV ta na sa term set).2.2.2 = 0
        · obtain ⟨g1, g2, g3, g4⟩ := f4 e5
          rw [g3] at g1 g2
          rw [g4] at g2
          cases e6 : mayR ta na sa node tb nb sb with
          | true =>
            obtain ⟨g5, g6⟩ := hm e6
            simp (maxSteps := 10000000) +contextual [go_sem, q6_11, q6_26, q6_28, q6_30, q6_32, q6_35, r23, r26, r28, r30, r32, r35, i1, e1, e2, e3, e4, e5, g1, g2, g3, g4, e6, g5]
          | false =>
            simp (maxSteps := 10000000) +contextual [go_sem, q6_11, q6_26, q6_28, q6_30, q6_32, q6_35, r23, r26, r28, r30, r32, r35, i1, e1, e2, e3, e4, e5, g1, g2, g3, g4, e6]
        · skip
          cases e6 : mayR ta na sa node tb nb sb with
          | true =>
            obtain ⟨g5, g6⟩ := hm e6
            simp (maxSteps := 10000000) +contextual [go_sem, q6_11, q6_26, q6_28, q6_30, q6_32, q6_35, r23, r26, r28, r30, r32, r35, i1, e1, e2, e3, e4, e5, e6, g5]
          | false =>
            simp (maxSteps := 10000000) +contextual [go_sem, q6_11, q6_26, q6_28, q6_30, q6_32, q6_35, r23, r26, r28, r30, r32, r35, i1, e1, e2, e3, e4, e5, e6]
      | false =>
        by_cases e5 : (nextV ta na sa term set).2.2.2 = 0
        · obtain ⟨g1, g2, g3, g4⟩ := f4 e5
          rw [g3] at g1 g2
          rw [g4] at g2
          cases e6 : mayR ta na sa node tb nb sb with
          | true =>
            obtain ⟨g5, g6⟩ := hm e6
            simp (maxSteps := 10000000) +contextual [go_sem, q6_11, q6_26, q6_28, q6_30, q6_32, q6_35, r23, r26, r28, r30, r32, r35, i1, e1, e2, e3, e5, g1, g2, g3, g4, e6, g5]
          | false =>
            simp (maxSteps := 10000000) +contextual [go_sem, q6_11, q6_26, q6_28, q6_30, q6_32, q6_35, r23, r26, r28, r30, r32, r35, i1, e1, e2, e3, e5, g1, g2, g3, g4, e6]
        · skip
          cases e6 : mayR ta na sa node tb nb sb with
          | true =>
            obtain ⟨g5, g6⟩ := hm e6
            simp (maxSteps := 10000000) +contextual [go_sem, q6_11, q6_26, q6_28, q6_30, q6_32, q6_35, r23, r26, r28, r30, r32, r35, i1, e1, e2, e3, e5, e6, g5]
          | false =>
            simp (maxSteps := 10000000) +contextual [go_sem, q6_11, q6_26, q6_28, q6_30, q6_32, q6_35, r23, r26, r28, r30, r32, r35, i1, e1, e2, e3, e5, e6]
    | false =>
      cases e2 : newerL tb nb ta na with
      | true =>
        by_cases e5 : (nextV ta na sa term set).2.2.2 = 0
        · obtain ⟨g1, g2, g3, g4⟩ := f4 e5
          rw [g3] at g1 g2
          rw [g4] at g2
          cases e6 : mayR ta na sa node tb nb sb with
          | true =>
            obtain ⟨g5, g6⟩ := hm e6
            have g7 : hasL sb node = true := g6.resolve_left (by simp [e1])
            simp (maxSteps := 10000000) +contextual [go_sem, q6_11, q6_26, q6_28, q6_30, q6_32, q6_35, r23, r26, r28, r30, r32, r35, i1, e1, e2, e5, g1, g2, g3, g4, e6, g5, g7]
          | false =>
            simp (maxSteps := 10000000) +contextual [go_sem, q6_11, q6_26, q6_28, q6_30, q6_32, q6_35, r23, r26, r28, r30, r32, r35, i1, e1, e2, e5, g1, g2, g3, g4, e6]
        · skip
          cases e6 : mayR ta na sa node tb nb sb with
          | true =>
            obtain ⟨g5, g6⟩ := hm e6
            have g7 : hasL sb node = true := g6.resolve_left (by simp [e1])
            simp (maxSteps := 10000000) +contextual [go_sem, q6_11, q6_26, q6_28, q6_30, q6_32, q6_35, r23, r26, r28, r30, r32, r35, i1, e1, e2, e5, e6, g5, g7]
          | false =>
            simp (maxSteps := 10000000) +contextual [go_sem, q6_11, q6_26, q6_28, q6_30, q6_32, q6_35, r23, r26, r28, r30, r32, r35, i1, e1, e2, e5, e6]
      | false =>
        obtain ⟨g8, g9⟩ := f3 e1 e2
        subst g8
        subst g9
        by_cases e5 : (nextV ta na sa term set).2.2.2 = 0
        · obtain ⟨g1, g2, g3, g4⟩ := f4 e5
          rw [g3] at g1 g2
          rw [g4] at g2
          cases e6 : mayR ta na sa node ta na sb with
          | true =>
            obtain ⟨g5, g6⟩ := hm e6
            have g7 : hasL sb node = true := g6.resolve_left (by simp [e1])
            simp (maxSteps := 10000000) +contextual [go_sem, q6_11, q6_26, q6_28, q6_30, q6_32, q6_35, r23, r26, r28, r30, r32, r35, i1, e1, e2, e5, g1, g2, g3, g4, e6, g5, g7]
          | false =>
            simp (maxSteps := 10000000) +contextual [go_sem, q6_11, q6_26, q6_28, q6_30, q6_32, q6_35, r23, r26, r28, r30, r32, r35, i1, e1, e2, e5, g1, g2, g3, g4, e6]
        · skip
          cases e6 : mayR ta na sa node ta na sb with
          | true =>
            obtain ⟨g5, g6⟩ := hm e6
            have g7 : hasL sb node = true := g6.resolve_left (by simp [e1])
            simp (maxSteps := 10000000) +contextual [go_sem, q6_11, q6_26, q6_28, q6_30, q6_32, q6_35, r23, r26, r28, r30, r32, r35, i1, e1, e2, e5, e6, g5, g7]
          | false =>
            simp (maxSteps := 10000000) +contextual [go_sem, q6_11, q6_26, q6_28, q6_30, q6_32, q6_35, r23, r26, r28, r30, r32, r35, i1, e1, e2, e5, e6]
  · simp at h
end Go.Eng.SeatA

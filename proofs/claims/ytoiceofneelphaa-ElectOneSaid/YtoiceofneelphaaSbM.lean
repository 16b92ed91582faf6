/- Layer 19: the laws of plain numbers. -/
import Derived.Test.YtoiceofneelphaaSbA
set_option linter.unusedSimpArgs false
set_option linter.unusedVariables false
set_option maxHeartbeats 40000000
namespace Go.Eng.SeatB
open Go.Proofs
def Φ4 : Phi := updP Φ3 16 (pspec rTrue16)
theorem ok4 : ∀ f, Sound Try.prog f (Φ4 f) := updP_ok ok3 s16
theorem p4_72 (l : List AVal) (H : AHeap) : Φ4 72 l H = pspec rIn l H := (rfl)
theorem p4_73 (l : List AVal) (H : AHeap) : Φ4 73 l H = pspec rIn l H := (rfl)
theorem p4_74 (l : List AVal) (H : AHeap) : Φ4 74 l H = pspec rIn l H := (rfl)
theorem p4_109 (l : List AVal) (H : AHeap) : Φ4 109 l H = pspec rIn l H := (rfl)
theorem p4_124 (l : List AVal) (H : AHeap) : Φ4 124 l H = pspec rIn l H := (rfl)
theorem p4_75 (l : List AVal) (H : AHeap) : Φ4 75 l H = pspec rFrom l H := (rfl)
theorem p4_76 (l : List AVal) (H : AHeap) : Φ4 76 l H = pspec rAbove l H := (rfl)
theorem p4_78 (l : List AVal) (H : AHeap) : Φ4 78 l H = pspec rAbove l H := (rfl)
theorem p4_110 (l : List AVal) (H : AHeap) : Φ4 110 l H = pspec rSince l H := (rfl)
theorem p4_71 (l : List AVal) (H : AHeap) : Φ4 71 l H = pspec rMay l H := (rfl)
theorem p4_82 (l : List AVal) (H : AHeap) : Φ4 82 l H = pspec rLeft l H := (rfl)
theorem p4_111 (l : List AVal) (H : AHeap) : Φ4 111 l H = pspec rValid l H := (rfl)
theorem p4_79 (l : List AVal) (H : AHeap) : Φ4 79 l H = pspec rAgo l H := (rfl)
theorem p4_80 (l : List AVal) (H : AHeap) : Φ4 80 l H = pspec rAgo l H := (rfl)
theorem p4_83 (l : List AVal) (H : AHeap) : Φ4 83 l H = pspec rLeft l H := (rfl)
theorem p4_42 (l : List AVal) (H : AHeap) : Φ4 42 l H = pspec rValid l H := (rfl)
theorem p4_23 (l : List AVal) (H : AHeap) : Φ4 23 l H = pspec rDue l H := (rfl)
theorem p4_24 (l : List AVal) (H : AHeap) : Φ4 24 l H = pspec rDue l H := (rfl)
theorem p4_25 (l : List AVal) (H : AHeap) : Φ4 25 l H = pspec rAgain l H := (rfl)
theorem p4_26 (l : List AVal) (H : AHeap) : Φ4 26 l H = pspec rAgain l H := (rfl)
theorem p4_27 (l : List AVal) (H : AHeap) : Φ4 27 l H = pspec rBeats l H := (rfl)
theorem p4_28 (l : List AVal) (H : AHeap) : Φ4 28 l H = pspec rBeats l H := (rfl)
theorem p4_16 (l : List AVal) (H : AHeap) : Φ4 16 l H = pspec rTrue16 l H := (rfl)
def r4 : List AVal → Option AVal
  | [.int .i64 _, .int .i64 _, .int .i64 _] => some (.bool true)
  | _ => none
theorem s4 : Sound Try.prog 4 (pspec r4) := by
  refine (fun_sound ok4 none_soundD mixed Try.func4 cal4 comp4).pspec (φ := denF Φ4 none2 c4) fun args v h => ?_
  unfold r4 at h
  split at h
  · simp only [Option.some.injEq] at h; subst h
    refine ⟨by simp [AVal.scals, AVal.scal], by simp [AVal.scals, AVal.scal], ?_⟩
    unfold c4
    simp (maxSteps := 10000000) +contextual [go_sem, p4_23, p4_24, p4_25, p4_26, p4_27, p4_28, p4_16, rDue, rAgain, rBeats, rTrue16]
  · simp at h
end Go.Eng.SeatB

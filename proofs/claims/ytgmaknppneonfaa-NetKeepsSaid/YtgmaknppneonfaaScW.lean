/- A closed law: all that it reaches, worked out by the kernel. -/
import Derived.Test.YtgmaknppneonfaaScA
set_option linter.unusedVariables false
set_option maxHeartbeats 40000000
set_option maxRecDepth 100000
namespace Go.Eng.SeatC
open Go.Proofs
def W0 : Phi := updP none2 10 (denF none2 none2 c10)
theorem Wo0 : ∀ f, Sound Try.prog f (W0 f) := updP_ok none_sound (fun_sound none_sound none_soundD mixed Try.func10 cal10 comp10)
def W1 : Phi := updP W0 26 (denF W0 none2 c26)
theorem Wo1 : ∀ f, Sound Try.prog f (W1 f) := updP_ok Wo0 (fun_sound Wo0 none_soundD mixed Try.func26 cal26 comp26)
def W2 : Phi := updP W1 27 (denF W1 none2 c27)
theorem Wo2 : ∀ f, Sound Try.prog f (W2 f) := updP_ok Wo1 (fun_sound Wo1 none_soundD mixed Try.func27 cal27 comp27)
def W3 : Phi := updP W2 28 (denF W2 none2 c28)
theorem Wo3 : ∀ f, Sound Try.prog f (W3 f) := updP_ok Wo2 (fun_sound Wo2 none_soundD mixed Try.func28 cal28 comp28)
def W4 : Phi := updP W3 13 (denF W3 none2 c13)
theorem Wo4 : ∀ f, Sound Try.prog f (W4 f) := updP_ok Wo3 (fun_sound Wo3 none_soundD mixed Try.func13 cal13 comp13)
def W5 : Phi := updP W4 31 (denF W4 none2 c31)
theorem Wo5 : ∀ f, Sound Try.prog f (W5 f) := updP_ok Wo4 (fun_sound Wo4 none_soundD mixed Try.func31 cal31 comp31)
def W6 : Phi := updP W5 18 (denF W5 none2 c18)
theorem Wo6 : ∀ f, Sound Try.prog f (W6 f) := updP_ok Wo5 (fun_sound Wo5 none_soundD mixed Try.func18 cal18 comp18)
def W7 : Phi := updP W6 29 (denF W6 none2 c29)
theorem Wo7 : ∀ f, Sound Try.prog f (W7 f) := updP_ok Wo6 (fun_sound Wo6 none_soundD mixed Try.func29 cal29 comp29)
def W8 : Phi := updP W7 16 (denF W7 none2 c16)
theorem Wo8 : ∀ f, Sound Try.prog f (W8 f) := updP_ok Wo7 (fun_sound Wo7 none_soundD mixed Try.func16 cal16 comp16)
def W9 : Phi := updP W8 32 (denF W8 none2 c32)
theorem Wo9 : ∀ f, Sound Try.prog f (W9 f) := updP_ok Wo8 (fun_sound Wo8 none_soundD mixed Try.func32 cal32 comp32)
def W10 : Phi := updP W9 19 (denF W9 none2 c19)
theorem Wo10 : ∀ f, Sound Try.prog f (W10 f) := updP_ok Wo9 (fun_sound Wo9 none_soundD mixed Try.func19 cal19 comp19)
def W11 : Phi := updP W10 14 (denF W10 none2 c14)
theorem Wo11 : ∀ f, Sound Try.prog f (W11 f) := updP_ok Wo10 (fun_sound Wo10 none_soundD mixed Try.func14 cal14 comp14)
def rTrue9 : List AVal → Option AVal
  | [] => some (.bool true)
  | _ => none
theorem s9 : Sound Try.prog 9 (pspec rTrue9) := by
  refine (fun_sound Wo11 none_soundD mixed Try.func9 cal9 comp9).pspec (φ := denF W11 none2 c9) fun args v h => ?_
  unfold rTrue9 at h
  split at h
  · simp only [Option.some.injEq] at h; subst h
    exact ⟨rfl, rfl, closed_ok (by kernel_rfl)⟩
  · simp at h
end Go.Eng.SeatC

/- A closed law: all that it reaches, worked out by the kernel. -/
import Derived.Test.YtoiceofneelphaaSbL
set_option linter.unusedVariables false
set_option maxHeartbeats 40000000
set_option maxRecDepth 100000
namespace Go.Eng.SeatB
open Go.Proofs
def A0 : Phi := updP none2 72 (denF none2 none2 c72)
theorem Ao0 : ∀ f, Sound Try.prog f (A0 f) := updP_ok none_sound (fun_sound none_sound none_soundD mixed Try.func72 cal72 comp72)
def A1 : Phi := updP A0 71 (denF A0 none2 c71)
theorem Ao1 : ∀ f, Sound Try.prog f (A1 f) := updP_ok Ao0 (fun_sound Ao0 none_soundD mixed Try.func71 cal71 comp71)
def A2 : Phi := updP A1 17 (denF A1 none2 c17)
theorem Ao2 : ∀ f, Sound Try.prog f (A2 f) := updP_ok Ao1 (fun_sound Ao1 none_soundD mixed Try.func17 cal17 comp17)
def A3 : Phi := updP A2 39 (denF A2 none2 c39)
theorem Ao3 : ∀ f, Sound Try.prog f (A3 f) := updP_ok Ao2 (fun_sound Ao2 none_soundD mixed Try.func39 cal39 comp39)
def A4 : Phi := updP A3 75 (denF A3 none2 c75)
theorem Ao4 : ∀ f, Sound Try.prog f (A4 f) := updP_ok Ao3 (fun_sound Ao3 none_soundD mixed Try.func75 cal75 comp75)
def A5 : Phi := updP A4 76 (denF A4 none2 c76)
theorem Ao5 : ∀ f, Sound Try.prog f (A5 f) := updP_ok Ao4 (fun_sound Ao4 none_soundD mixed Try.func76 cal76 comp76)
def A6 : Phi := updP A5 19 (denF A5 none2 c19)
theorem Ao6 : ∀ f, Sound Try.prog f (A6 f) := updP_ok Ao5 (fun_sound Ao5 none_soundD mixed Try.func19 cal19 comp19)
def A7 : Phi := updP A6 21 (denF A6 none2 c21)
theorem Ao7 : ∀ f, Sound Try.prog f (A7 f) := updP_ok Ao6 (fun_sound Ao6 none_soundD mixed Try.func21 cal21 comp21)
def A8 : Phi := updP A7 79 (denF A7 none2 c79)
theorem Ao8 : ∀ f, Sound Try.prog f (A8 f) := updP_ok Ao7 (fun_sound Ao7 none_soundD mixed Try.func79 cal79 comp79)
def A9 : Phi := updP A8 23 (denF A8 none2 c23)
theorem Ao9 : ∀ f, Sound Try.prog f (A9 f) := updP_ok Ao8 (fun_sound Ao8 none_soundD mixed Try.func23 cal23 comp23)
def rTrue16 : List AVal → Option AVal
  | [] => some (.bool true)
  | _ => none
theorem s16 : Sound Try.prog 16 (pspec rTrue16) := by
  refine (fun_sound Ao9 none_soundD mixed Try.func16 cal16 comp16).pspec (φ := denF A9 none2 c16) fun args v h => ?_
  unfold rTrue16 at h
  split at h
  · simp only [Option.some.injEq] at h; subst h
    exact ⟨rfl, rfl, closed_ok (by kernel_rfl)⟩
  · simp at h
end Go.Eng.SeatB

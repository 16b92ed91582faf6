/- A closed law: all that it reaches, worked out by the kernel. -/
import Derived.Test.YtoiceofneelphaaSbL
set_option linter.unusedVariables false
set_option maxHeartbeats 40000000
set_option maxRecDepth 100000
namespace Go.Eng.SeatB
open Go.Proofs
def K0 : Phi := updP none2 72 (denF none2 none2 c72)
theorem Ko0 : ∀ f, Sound Try.prog f (K0 f) := updP_ok none_sound (fun_sound none_sound none_soundD mixed Try.func72 cal72 comp72)
def K1 : Phi := updP K0 71 (denF K0 none2 c71)
theorem Ko1 : ∀ f, Sound Try.prog f (K1 f) := updP_ok Ko0 (fun_sound Ko0 none_soundD mixed Try.func71 cal71 comp71)
def K2 : Phi := updP K1 17 (denF K1 none2 c17)
theorem Ko2 : ∀ f, Sound Try.prog f (K2 f) := updP_ok Ko1 (fun_sound Ko1 none_soundD mixed Try.func17 cal17 comp17)
def K3 : Phi := updP K2 33 (denF K2 none2 c33)
theorem Ko3 : ∀ f, Sound Try.prog f (K3 f) := updP_ok Ko2 (fun_sound Ko2 none_soundD mixed Try.func33 cal33 comp33)
def K4 : Phi := updP K3 39 (denF K3 none2 c39)
theorem Ko4 : ∀ f, Sound Try.prog f (K4 f) := updP_ok Ko3 (fun_sound Ko3 none_soundD mixed Try.func39 cal39 comp39)
def K5 : Phi := updP K4 75 (denF K4 none2 c75)
theorem Ko5 : ∀ f, Sound Try.prog f (K5 f) := updP_ok Ko4 (fun_sound Ko4 none_soundD mixed Try.func75 cal75 comp75)
def K6 : Phi := updP K5 76 (denF K5 none2 c76)
theorem Ko6 : ∀ f, Sound Try.prog f (K6 f) := updP_ok Ko5 (fun_sound Ko5 none_soundD mixed Try.func76 cal76 comp76)
def K7 : Phi := updP K6 19 (denF K6 none2 c19)
theorem Ko7 : ∀ f, Sound Try.prog f (K7 f) := updP_ok Ko6 (fun_sound Ko6 none_soundD mixed Try.func19 cal19 comp19)
def K8 : Phi := updP K7 21 (denF K7 none2 c21)
theorem Ko8 : ∀ f, Sound Try.prog f (K8 f) := updP_ok Ko7 (fun_sound Ko7 none_soundD mixed Try.func21 cal21 comp21)
def K9 : Phi := updP K8 81 (denF K8 none2 c81)
theorem Ko9 : ∀ f, Sound Try.prog f (K9 f) := updP_ok Ko8 (fun_sound Ko8 none_soundD mixed Try.func81 cal81 comp81)
def K10 : Phi := updP K9 30 (denF K9 none2 c30)
theorem Ko10 : ∀ f, Sound Try.prog f (K10 f) := updP_ok Ko9 (fun_sound Ko9 none_soundD mixed Try.func30 cal30 comp30)
def K11 : Phi := updP K10 109 (denF K10 none2 c109)
theorem Ko11 : ∀ f, Sound Try.prog f (K11 f) := updP_ok Ko10 (fun_sound Ko10 none_soundD mixed Try.func109 cal109 comp109)
def K12 : Phi := updP K11 110 (denF K11 none2 c110)
theorem Ko12 : ∀ f, Sound Try.prog f (K12 f) := updP_ok Ko11 (fun_sound Ko11 none_soundD mixed Try.func110 cal110 comp110)
def K13 : Phi := updP K12 82 (denF K12 none2 c82)
theorem Ko13 : ∀ f, Sound Try.prog f (K13 f) := updP_ok Ko12 (fun_sound Ko12 none_soundD mixed Try.func82 cal82 comp82)
def K14 : Phi := updP K13 32 (denF K13 none2 c32)
theorem Ko14 : ∀ f, Sound Try.prog f (K14 f) := updP_ok Ko13 (fun_sound Ko13 none_soundD mixed Try.func32 cal32 comp32)
def K15 : Phi := updP K14 31 (denF K14 none2 c31)
theorem Ko15 : ∀ f, Sound Try.prog f (K15 f) := updP_ok Ko14 (fun_sound Ko14 none_soundD mixed Try.func31 cal31 comp31)
def K16 : Phi := updP K15 40 (denF K15 none2 c40)
theorem Ko16 : ∀ f, Sound Try.prog f (K16 f) := updP_ok Ko15 (fun_sound Ko15 none_soundD mixed Try.func40 cal40 comp40)
def K17 : Phi := updP K16 29 (denF K16 none2 c29)
theorem Ko17 : ∀ f, Sound Try.prog f (K17 f) := updP_ok Ko16 (fun_sound Ko16 none_soundD mixed Try.func29 cal29 comp29)
def K18 : Phi := updP K17 79 (denF K17 none2 c79)
theorem Ko18 : ∀ f, Sound Try.prog f (K18 f) := updP_ok Ko17 (fun_sound Ko17 none_soundD mixed Try.func79 cal79 comp79)
def K19 : Phi := updP K18 23 (denF K18 none2 c23)
theorem Ko19 : ∀ f, Sound Try.prog f (K19 f) := updP_ok Ko18 (fun_sound Ko18 none_soundD mixed Try.func23 cal23 comp23)
def K20 : Phi := updP K19 16 (denF K19 none2 c16)
theorem Ko20 : ∀ f, Sound Try.prog f (K20 f) := updP_ok Ko19 (fun_sound Ko19 none_soundD mixed Try.func16 cal16 comp16)
def K21 : Phi := updP K20 25 (denF K20 none2 c25)
theorem Ko21 : ∀ f, Sound Try.prog f (K21 f) := updP_ok Ko20 (fun_sound Ko20 none_soundD mixed Try.func25 cal25 comp25)
def K22 : Phi := updP K21 27 (denF K21 none2 c27)
theorem Ko22 : ∀ f, Sound Try.prog f (K22 f) := updP_ok Ko21 (fun_sound Ko21 none_soundD mixed Try.func27 cal27 comp27)
def rTrue7 : List AVal → Option AVal
  | [] => some (.bool true)
  | _ => none
theorem s7 : Sound Try.prog 7 (pspec rTrue7) := by
  refine (fun_sound Ko22 none_soundD mixed Try.func7 cal7 comp7).pspec (φ := denF K22 none2 c7) fun args v h => ?_
  unfold rTrue7 at h
  split at h
  · simp only [Option.some.injEq] at h; subst h
    exact ⟨rfl, rfl, closed_ok (by kernel_rfl)⟩
  · simp at h
end Go.Eng.SeatB

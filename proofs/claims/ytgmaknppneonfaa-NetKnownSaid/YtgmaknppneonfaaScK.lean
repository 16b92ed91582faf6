/- A closed law: all that it reaches, worked out by the kernel. -/
import Derived.Test.YtgmaknppneonfaaScA
set_option linter.unusedVariables false
set_option maxHeartbeats 40000000
set_option maxRecDepth 100000
namespace Go.Eng.SeatC
open Go.Proofs
def K0 : Phi := updP none2 10 (denF none2 none2 c10)
theorem Ko0 : ∀ f, Sound Try.prog f (K0 f) := updP_ok none_sound (fun_sound none_sound none_soundD mixed Try.func10 cal10 comp10)
def K1 : Phi := updP K0 26 (denF K0 none2 c26)
theorem Ko1 : ∀ f, Sound Try.prog f (K1 f) := updP_ok Ko0 (fun_sound Ko0 none_soundD mixed Try.func26 cal26 comp26)
def K2 : Phi := updP K1 27 (denF K1 none2 c27)
theorem Ko2 : ∀ f, Sound Try.prog f (K2 f) := updP_ok Ko1 (fun_sound Ko1 none_soundD mixed Try.func27 cal27 comp27)
def K3 : Phi := updP K2 28 (denF K2 none2 c28)
theorem Ko3 : ∀ f, Sound Try.prog f (K3 f) := updP_ok Ko2 (fun_sound Ko2 none_soundD mixed Try.func28 cal28 comp28)
def K4 : Phi := updP K3 13 (denF K3 none2 c13)
theorem Ko4 : ∀ f, Sound Try.prog f (K4 f) := updP_ok Ko3 (fun_sound Ko3 none_soundD mixed Try.func13 cal13 comp13)
def K5 : Phi := updP K4 31 (denF K4 none2 c31)
theorem Ko5 : ∀ f, Sound Try.prog f (K5 f) := updP_ok Ko4 (fun_sound Ko4 none_soundD mixed Try.func31 cal31 comp31)
def K6 : Phi := updP K5 18 (denF K5 none2 c18)
theorem Ko6 : ∀ f, Sound Try.prog f (K6 f) := updP_ok Ko5 (fun_sound Ko5 none_soundD mixed Try.func18 cal18 comp18)
def K7 : Phi := updP K6 47 (denF K6 none2 c47)
theorem Ko7 : ∀ f, Sound Try.prog f (K7 f) := updP_ok Ko6 (fun_sound Ko6 none_soundD mixed Try.func47 cal47 comp47)
def K8 : Phi := updP K7 46 (denF K7 none2 c46)
theorem Ko8 : ∀ f, Sound Try.prog f (K8 f) := updP_ok Ko7 (fun_sound Ko7 none_soundD mixed Try.func46 cal46 comp46)
def K9 : Phi := updP K8 45 (denF K8 none2 c45)
theorem Ko9 : ∀ f, Sound Try.prog f (K9 f) := updP_ok Ko8 (fun_sound Ko8 none_soundD mixed Try.func45 cal45 comp45)
def K10 : Phi := updP K9 30 (denF K9 none2 c30)
theorem Ko10 : ∀ f, Sound Try.prog f (K10 f) := updP_ok Ko9 (fun_sound Ko9 none_soundD mixed Try.func30 cal30 comp30)
def K11 : Phi := updP K10 17 (denF K10 none2 c17)
theorem Ko11 : ∀ f, Sound Try.prog f (K11 f) := updP_ok Ko10 (fun_sound Ko10 none_soundD mixed Try.func17 cal17 comp17)
def K12 : Phi := updP K11 32 (denF K11 none2 c32)
theorem Ko12 : ∀ f, Sound Try.prog f (K12 f) := updP_ok Ko11 (fun_sound Ko11 none_soundD mixed Try.func32 cal32 comp32)
def K13 : Phi := updP K12 19 (denF K12 none2 c19)
theorem Ko13 : ∀ f, Sound Try.prog f (K13 f) := updP_ok Ko12 (fun_sound Ko12 none_soundD mixed Try.func19 cal19 comp19)
def K14 : Phi := updP K13 29 (denF K13 none2 c29)
theorem Ko14 : ∀ f, Sound Try.prog f (K14 f) := updP_ok Ko13 (fun_sound Ko13 none_soundD mixed Try.func29 cal29 comp29)
def K15 : Phi := updP K14 16 (denF K14 none2 c16)
theorem Ko15 : ∀ f, Sound Try.prog f (K15 f) := updP_ok Ko14 (fun_sound Ko14 none_soundD mixed Try.func16 cal16 comp16)
def K16 : Phi := updP K15 11 (denF K15 none2 c11)
theorem Ko16 : ∀ f, Sound Try.prog f (K16 f) := updP_ok Ko15 (fun_sound Ko15 none_soundD mixed Try.func11 cal11 comp11)
def K17 : Phi := updP K16 14 (denF K16 none2 c14)
theorem Ko17 : ∀ f, Sound Try.prog f (K17 f) := updP_ok Ko16 (fun_sound Ko16 none_soundD mixed Try.func14 cal14 comp14)
def K18 : Phi := updP K17 15 (denF K17 none2 c15)
theorem Ko18 : ∀ f, Sound Try.prog f (K18 f) := updP_ok Ko17 (fun_sound Ko17 none_soundD mixed Try.func15 cal15 comp15)
def K19 : Phi := updP K18 9 (denF K18 none2 c9)
theorem Ko19 : ∀ f, Sound Try.prog f (K19 f) := updP_ok Ko18 (fun_sound Ko18 none_soundD mixed Try.func9 cal9 comp9)
def rTrue5 : List AVal → Option AVal
  | [] => some (.bool true)
  | _ => none
theorem s5 : Sound Try.prog 5 (pspec rTrue5) := by
  refine (fun_sound Ko19 none_soundD mixed Try.func5 cal5 comp5).pspec (φ := denF K19 none2 c5) fun args v h => ?_
  unfold rTrue5 at h
  split at h
  · simp only [Option.some.injEq] at h; subst h
    exact ⟨rfl, rfl, closed_ok (by kernel_rfl)⟩
  · simp at h
end Go.Eng.SeatC

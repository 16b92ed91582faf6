/- A closed law: all that it reaches, worked out by the kernel. -/
import Derived.Test.YtgmaknppneonfaaScA
set_option linter.unusedVariables false
set_option maxHeartbeats 40000000
set_option maxRecDepth 100000
namespace Go.Eng.SeatC
open Go.Proofs
def N0 : Phi := updP none2 26 (denF none2 none2 c26)
theorem No0 : ∀ f, Sound Try.prog f (N0 f) := updP_ok none_sound (fun_sound none_sound none_soundD mixed Try.func26 cal26 comp26)
def N1 : Phi := updP N0 31 (denF N0 none2 c31)
theorem No1 : ∀ f, Sound Try.prog f (N1 f) := updP_ok No0 (fun_sound No0 none_soundD mixed Try.func31 cal31 comp31)
def N2 : Phi := updP N1 28 (denF N1 none2 c28)
theorem No2 : ∀ f, Sound Try.prog f (N2 f) := updP_ok No1 (fun_sound No1 none_soundD mixed Try.func28 cal28 comp28)
def N3 : Phi := updP N2 18 (denF N2 none2 c18)
theorem No3 : ∀ f, Sound Try.prog f (N3 f) := updP_ok No2 (fun_sound No2 none_soundD mixed Try.func18 cal18 comp18)
def N4 : Phi := updP N3 29 (denF N3 none2 c29)
theorem No4 : ∀ f, Sound Try.prog f (N4 f) := updP_ok No3 (fun_sound No3 none_soundD mixed Try.func29 cal29 comp29)
def N5 : Phi := updP N4 16 (denF N4 none2 c16)
theorem No5 : ∀ f, Sound Try.prog f (N5 f) := updP_ok No4 (fun_sound No4 none_soundD mixed Try.func16 cal16 comp16)
def N6 : Phi := updP N5 32 (denF N5 none2 c32)
theorem No6 : ∀ f, Sound Try.prog f (N6 f) := updP_ok No5 (fun_sound No5 none_soundD mixed Try.func32 cal32 comp32)
def N7 : Phi := updP N6 25 (denF N6 none2 c25)
theorem No7 : ∀ f, Sound Try.prog f (N7 f) := updP_ok No6 (fun_sound No6 none_soundD mixed Try.func25 cal25 comp25)
def N8 : Phi := updP N7 27 (denF N7 none2 c27)
theorem No8 : ∀ f, Sound Try.prog f (N8 f) := updP_ok No7 (fun_sound No7 none_soundD mixed Try.func27 cal27 comp27)
def N9 : Phi := updP N8 13 (denF N8 none2 c13)
theorem No9 : ∀ f, Sound Try.prog f (N9 f) := updP_ok No8 (fun_sound No8 none_soundD mixed Try.func13 cal13 comp13)
def N10 : Phi := updP N9 20 (denF N9 none2 c20)
theorem No10 : ∀ f, Sound Try.prog f (N10 f) := updP_ok No9 (fun_sound No9 none_soundD mixed Try.func20 cal20 comp20)
def N11 : Phi := updP N10 47 (denF N10 none2 c47)
theorem No11 : ∀ f, Sound Try.prog f (N11 f) := updP_ok No10 (fun_sound No10 none_soundD mixed Try.func47 cal47 comp47)
def N12 : Phi := updP N11 46 (denF N11 none2 c46)
theorem No12 : ∀ f, Sound Try.prog f (N12 f) := updP_ok No11 (fun_sound No11 none_soundD mixed Try.func46 cal46 comp46)
def N13 : Phi := updP N12 45 (denF N12 none2 c45)
theorem No13 : ∀ f, Sound Try.prog f (N13 f) := updP_ok No12 (fun_sound No12 none_soundD mixed Try.func45 cal45 comp45)
def N14 : Phi := updP N13 30 (denF N13 none2 c30)
theorem No14 : ∀ f, Sound Try.prog f (N14 f) := updP_ok No13 (fun_sound No13 none_soundD mixed Try.func30 cal30 comp30)
def N15 : Phi := updP N14 17 (denF N14 none2 c17)
theorem No15 : ∀ f, Sound Try.prog f (N15 f) := updP_ok No14 (fun_sound No14 none_soundD mixed Try.func17 cal17 comp17)
def N16 : Phi := updP N15 11 (denF N15 none2 c11)
theorem No16 : ∀ f, Sound Try.prog f (N16 f) := updP_ok No15 (fun_sound No15 none_soundD mixed Try.func11 cal11 comp11)
def N17 : Phi := updP N16 21 (denF N16 none2 c21)
theorem No17 : ∀ f, Sound Try.prog f (N17 f) := updP_ok No16 (fun_sound No16 none_soundD mixed Try.func21 cal21 comp21)
def N18 : Phi := updP N17 14 (denF N17 none2 c14)
theorem No18 : ∀ f, Sound Try.prog f (N18 f) := updP_ok No17 (fun_sound No17 none_soundD mixed Try.func14 cal14 comp14)
def N19 : Phi := updP N18 15 (denF N18 none2 c15)
theorem No19 : ∀ f, Sound Try.prog f (N19 f) := updP_ok No18 (fun_sound No18 none_soundD mixed Try.func15 cal15 comp15)
def N20 : Phi := updP N19 23 (denF N19 none2 c23)
theorem No20 : ∀ f, Sound Try.prog f (N20 f) := updP_ok No19 (fun_sound No19 none_soundD mixed Try.func23 cal23 comp23)
def N21 : Phi := updP N20 10 (denF N20 none2 c10)
theorem No21 : ∀ f, Sound Try.prog f (N21 f) := updP_ok No20 (fun_sound No20 none_soundD mixed Try.func10 cal10 comp10)
def N22 : Phi := updP N21 19 (denF N21 none2 c19)
theorem No22 : ∀ f, Sound Try.prog f (N22 f) := updP_ok No21 (fun_sound No21 none_soundD mixed Try.func19 cal19 comp19)
def N23 : Phi := updP N22 9 (denF N22 none2 c9)
theorem No23 : ∀ f, Sound Try.prog f (N23 f) := updP_ok No22 (fun_sound No22 none_soundD mixed Try.func9 cal9 comp9)
def rTrue8 : List AVal → Option AVal
  | [.int .i64 _, .int .i64 _] => some (.bool true)
  | _ => none
theorem s8 : Sound Try.prog 8 (pspec rTrue8) := by
  refine (fun_sound No23 none_soundD mixed Try.func8 cal8 comp8).pspec (φ := denF N23 none2 c8) fun args v h => ?_
  unfold rTrue8 at h
  split at h
  · simp only [Option.some.injEq] at h; subst h
    exact ⟨rfl, rfl, closed_ok (by kernel_rfl)⟩
  · simp at h
end Go.Eng.SeatC

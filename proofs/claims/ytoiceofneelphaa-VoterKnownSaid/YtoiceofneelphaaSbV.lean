/- A closed law: all that it reaches, worked out by the kernel. -/
import Derived.Test.YtoiceofneelphaaSbG
import Derived.Test.YtoiceofneelphaaSbL
set_option linter.unusedVariables false
set_option maxHeartbeats 40000000
set_option maxRecDepth 100000
namespace Go.Eng.SeatB
open Go.Proofs
theorem Vpd {Φ : Phi} (h : ∀ g, SoundD Try.prog g (Φ g)) {f : FuncId} {ψ : List AVal → AHeap → Option (AVal × AHeap)} (k : SoundD Try.prog f ψ) : ∀ g, SoundD Try.prog g (updP Φ f ψ g) := by
  intro g
  unfold updP
  by_cases e : g = f
  · rw [if_pos e, e]; exact k
  · rw [if_neg e]; exact h g
def V0 : Phi := updP none2 46 (denF none2 none2 c46)
theorem Vo0 : ∀ f, Sound Try.prog f (V0 f) := updP_ok none_sound (fun_sound none_sound none_soundD mixed Try.func46 cal46 comp46)
def V1 : Phi := updP V0 89 (denF V0 none2 c89)
theorem Vo1 : ∀ f, Sound Try.prog f (V1 f) := updP_ok Vo0 (fun_sound Vo0 none_soundD mixed Try.func89 cal89 comp89)
def V2 : Phi := updP V1 113 (denF V1 none2 c113)
theorem Vo2 : ∀ f, Sound Try.prog f (V2 f) := updP_ok Vo1 (fun_sound Vo1 none_soundD mixed Try.func113 cal113 comp113)
def V3 : Phi := updP V2 90 (denF V2 none2 c90)
theorem Vo3 : ∀ f, Sound Try.prog f (V3 f) := updP_ok Vo2 (fun_sound Vo2 none_soundD mixed Try.func90 cal90 comp90)
def V4 : Phi := updP V3 55 (denF V3 none2 c55)
theorem Vo4 : ∀ f, Sound Try.prog f (V4 f) := updP_ok Vo3 (fun_sound Vo3 none_soundD mixed Try.func55 cal55 comp55)
def V5 : Phi := updP V4 52 (denF V4 none2 c52)
theorem Vo5 : ∀ f, Sound Try.prog f (V5 f) := updP_ok Vo4 (fun_sound Vo4 none_soundD mixed Try.func52 cal52 comp52)
def V6 : Phi := updP V5 43 (denF V5 none2 c43)
theorem Vo6 : ∀ f, Sound Try.prog f (V6 f) := updP_ok Vo5 (fun_sound Vo5 none_soundD mixed Try.func43 cal43 comp43)
def V7 : Phi := updP V6 45 (denF V6 none2 c45)
theorem Vo7 : ∀ f, Sound Try.prog f (V7 f) := updP_ok Vo6 (fun_sound Vo6 none_soundD mixed Try.func45 cal45 comp45)
def V8 : Phi := updP V7 88 (denF V7 none2 c88)
theorem Vo8 : ∀ f, Sound Try.prog f (V8 f) := updP_ok Vo7 (fun_sound Vo7 none_soundD mixed Try.func88 cal88 comp88)
def V9 : Phi := updP V8 127 (denF V8 none2 c127)
theorem Vo9 : ∀ f, Sound Try.prog f (V9 f) := updP_ok Vo8 (fun_sound Vo8 none_soundD mixed Try.func127 cal127 comp127)
def V10 : Phi := updP V9 128 (denF V9 none2 c128)
theorem Vo10 : ∀ f, Sound Try.prog f (V10 f) := updP_ok Vo9 (fun_sound Vo9 none_soundD mixed Try.func128 cal128 comp128)
def V11 : Phi := updP V10 125 (denF V10 none2 c125)
theorem Vo11 : ∀ f, Sound Try.prog f (V11 f) := updP_ok Vo10 (fun_sound Vo10 none_soundD mixed Try.func125 cal125 comp125)
def V12 : Phi := updP V11 112 (denF V11 none2 c112)
theorem Vo12 : ∀ f, Sound Try.prog f (V12 f) := updP_ok Vo11 (fun_sound Vo11 none_soundD mixed Try.func112 cal112 comp112)
def V13 : Phi := updP V12 84 (denF V12 none2 c84)
theorem Vo13 : ∀ f, Sound Try.prog f (V13 f) := updP_ok Vo12 (fun_sound Vo12 none_soundD mixed Try.func84 cal84 comp84)
def V14 : Phi := updP V13 109 (denF V13 none2 c109)
theorem Vo14 : ∀ f, Sound Try.prog f (V14 f) := updP_ok Vo13 (fun_sound Vo13 none_soundD mixed Try.func109 cal109 comp109)
def V15 : Phi := updP V14 110 (denF V14 none2 c110)
theorem Vo15 : ∀ f, Sound Try.prog f (V15 f) := updP_ok Vo14 (fun_sound Vo14 none_soundD mixed Try.func110 cal110 comp110)
def V16 : Phi := updP V15 102 (denF V15 none2 c102)
theorem Vo16 : ∀ f, Sound Try.prog f (V16 f) := updP_ok Vo15 (fun_sound Vo15 none_soundD mixed Try.func102 cal102 comp102)
def V17 : Phi := updP V16 66 (denF V16 none2 c66)
theorem Vo17 : ∀ f, Sound Try.prog f (V17 f) := updP_ok Vo16 (fun_sound Vo16 none_soundD mixed Try.func66 cal66 comp66)
def V18 : Phi := updP V17 120 (denF V17 none2 c120)
theorem Vo18 : ∀ f, Sound Try.prog f (V18 f) := updP_ok Vo17 (fun_sound Vo17 none_soundD mixed Try.func120 cal120 comp120)
def V19 : Phi := updP V18 100 (denF V18 none2 c100)
theorem Vo19 : ∀ f, Sound Try.prog f (V19 f) := updP_ok Vo18 (fun_sound Vo18 none_soundD mixed Try.func100 cal100 comp100)
def V20 : Phi := updP V19 121 (denF V19 none2 c121)
theorem Vo20 : ∀ f, Sound Try.prog f (V20 f) := updP_ok Vo19 (fun_sound Vo19 none_soundD mixed Try.func121 cal121 comp121)
def V21 : Phi := updP V20 104 (denF V20 none2 c104)
theorem Vo21 : ∀ f, Sound Try.prog f (V21 f) := updP_ok Vo20 (fun_sound Vo20 none_soundD mixed Try.func104 cal104 comp104)
def V22 : Phi := updP V21 103 (denF V21 none2 c103)
theorem Vo22 : ∀ f, Sound Try.prog f (V22 f) := updP_ok Vo21 (fun_sound Vo21 none_soundD mixed Try.func103 cal103 comp103)
def V23 : Phi := updP V22 68 (denF V22 none2 c68)
theorem Vo23 : ∀ f, Sound Try.prog f (V23 f) := updP_ok Vo22 (fun_sound Vo22 none_soundD mixed Try.func68 cal68 comp68)
def V24 : Phi := updP V23 67 (denF V23 none2 c67)
theorem Vo24 : ∀ f, Sound Try.prog f (V24 f) := updP_ok Vo23 (fun_sound Vo23 none_soundD mixed Try.func67 cal67 comp67)
def V25 : Phi := updP V24 85 (denF V24 none2 c85)
theorem Vo25 : ∀ f, Sound Try.prog f (V25 f) := updP_ok Vo24 (fun_sound Vo24 none_soundD mixed Try.func85 cal85 comp85)
def VD86 : Phi := updP none2 86 (denF V25 none2 c86)
theorem VDo86 : ∀ f, SoundD Try.prog f (VD86 f) := Vpd none_soundD (fun_soundD Vo25 mixed Try.func86 cal86 comp86)
def V27 : Phi := updP V25 44 (denF V25 VD86 c44)
theorem Vo27 : ∀ f, Sound Try.prog f (V27 f) := updP_ok Vo25 (fun_sound Vo25 VDo86 mixed Try.func44 cal44 comp44)
def V28 : Phi := updP V27 87 (denF V27 none2 c87)
theorem Vo28 : ∀ f, Sound Try.prog f (V28 f) := updP_ok Vo27 (fun_sound Vo27 none_soundD mixed Try.func87 cal87 comp87)
def V29 : Phi := updP V28 47 (denF V28 none2 c47)
theorem Vo29 : ∀ f, Sound Try.prog f (V29 f) := updP_ok Vo28 (fun_sound Vo28 none_soundD mixed Try.func47 cal47 comp47)
def V30 : Phi := updP V29 48 (denF V29 none2 c48)
theorem Vo30 : ∀ f, Sound Try.prog f (V30 f) := updP_ok Vo29 (fun_sound Vo29 none_soundD mixed Try.func48 cal48 comp48)
def V31 : Phi := updP V30 49 (denF V30 none2 c49)
theorem Vo31 : ∀ f, Sound Try.prog f (V31 f) := updP_ok Vo30 (fun_sound Vo30 none_soundD mixed Try.func49 cal49 comp49)
def V32 : Phi := updP V31 51 (denF V31 none2 c51)
theorem Vo32 : ∀ f, Sound Try.prog f (V32 f) := updP_ok Vo31 (fun_sound Vo31 none_soundD mixed Try.func51 cal51 comp51)
def V33 : Phi := updP V32 50 (denF V32 none2 c50)
theorem Vo33 : ∀ f, Sound Try.prog f (V33 f) := updP_ok Vo32 (fun_sound Vo32 none_soundD mixed Try.func50 cal50 comp50)
def rTrue9 : List AVal → Option AVal
  | [] => some (.bool true)
  | _ => none
theorem s9 : Sound Try.prog 9 (pspec rTrue9) := by
  refine (fun_sound Vo33 none_soundD mixed Try.func9 cal9 comp9).pspec (φ := denF V33 none2 c9) fun args v h => ?_
  unfold rTrue9 at h
  split at h
  · simp only [Option.some.injEq] at h; subst h
    exact ⟨rfl, rfl, closed_ok (by kernel_rfl)⟩
  · simp at h
end Go.Eng.SeatB

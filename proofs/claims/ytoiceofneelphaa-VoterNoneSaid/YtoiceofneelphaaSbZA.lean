/- A closed law: all that it reaches, worked out by the kernel. -/
import Derived.Test.YtoiceofneelphaaSbH
import Derived.Test.YtoiceofneelphaaSbL
set_option linter.unusedVariables false
set_option maxHeartbeats 40000000
set_option maxRecDepth 100000
namespace Go.Eng.SeatB
open Go.Proofs
theorem Zpd {Φ : Phi} (h : ∀ g, SoundD Try.prog g (Φ g)) {f : FuncId} {ψ : List AVal → AHeap → Option (AVal × AHeap)} (k : SoundD Try.prog f ψ) : ∀ g, SoundD Try.prog g (updP Φ f ψ g) := by
  intro g
  unfold updP
  by_cases e : g = f
  · rw [if_pos e, e]; exact k
  · rw [if_neg e]; exact h g
def Z0 : Phi := updP none2 53 (denF none2 none2 c53)
theorem Zo0 : ∀ f, Sound Try.prog f (Z0 f) := updP_ok none_sound (fun_sound none_sound none_soundD mixed Try.func53 cal53 comp53)
def Z1 : Phi := updP Z0 46 (denF Z0 none2 c46)
theorem Zo1 : ∀ f, Sound Try.prog f (Z1 f) := updP_ok Zo0 (fun_sound Zo0 none_soundD mixed Try.func46 cal46 comp46)
def Z2 : Phi := updP Z1 89 (denF Z1 none2 c89)
theorem Zo2 : ∀ f, Sound Try.prog f (Z2 f) := updP_ok Zo1 (fun_sound Zo1 none_soundD mixed Try.func89 cal89 comp89)
def Z3 : Phi := updP Z2 113 (denF Z2 none2 c113)
theorem Zo3 : ∀ f, Sound Try.prog f (Z3 f) := updP_ok Zo2 (fun_sound Zo2 none_soundD mixed Try.func113 cal113 comp113)
def Z4 : Phi := updP Z3 90 (denF Z3 none2 c90)
theorem Zo4 : ∀ f, Sound Try.prog f (Z4 f) := updP_ok Zo3 (fun_sound Zo3 none_soundD mixed Try.func90 cal90 comp90)
def Z5 : Phi := updP Z4 55 (denF Z4 none2 c55)
theorem Zo5 : ∀ f, Sound Try.prog f (Z5 f) := updP_ok Zo4 (fun_sound Zo4 none_soundD mixed Try.func55 cal55 comp55)
def Z6 : Phi := updP Z5 52 (denF Z5 none2 c52)
theorem Zo6 : ∀ f, Sound Try.prog f (Z6 f) := updP_ok Zo5 (fun_sound Zo5 none_soundD mixed Try.func52 cal52 comp52)
def Z7 : Phi := updP Z6 43 (denF Z6 none2 c43)
theorem Zo7 : ∀ f, Sound Try.prog f (Z7 f) := updP_ok Zo6 (fun_sound Zo6 none_soundD mixed Try.func43 cal43 comp43)
def Z8 : Phi := updP Z7 45 (denF Z7 none2 c45)
theorem Zo8 : ∀ f, Sound Try.prog f (Z8 f) := updP_ok Zo7 (fun_sound Zo7 none_soundD mixed Try.func45 cal45 comp45)
def Z9 : Phi := updP Z8 88 (denF Z8 none2 c88)
theorem Zo9 : ∀ f, Sound Try.prog f (Z9 f) := updP_ok Zo8 (fun_sound Zo8 none_soundD mixed Try.func88 cal88 comp88)
def Z10 : Phi := updP Z9 127 (denF Z9 none2 c127)
theorem Zo10 : ∀ f, Sound Try.prog f (Z10 f) := updP_ok Zo9 (fun_sound Zo9 none_soundD mixed Try.func127 cal127 comp127)
def Z11 : Phi := updP Z10 128 (denF Z10 none2 c128)
theorem Zo11 : ∀ f, Sound Try.prog f (Z11 f) := updP_ok Zo10 (fun_sound Zo10 none_soundD mixed Try.func128 cal128 comp128)
def Z12 : Phi := updP Z11 125 (denF Z11 none2 c125)
theorem Zo12 : ∀ f, Sound Try.prog f (Z12 f) := updP_ok Zo11 (fun_sound Zo11 none_soundD mixed Try.func125 cal125 comp125)
def Z13 : Phi := updP Z12 112 (denF Z12 none2 c112)
theorem Zo13 : ∀ f, Sound Try.prog f (Z13 f) := updP_ok Zo12 (fun_sound Zo12 none_soundD mixed Try.func112 cal112 comp112)
def Z14 : Phi := updP Z13 84 (denF Z13 none2 c84)
theorem Zo14 : ∀ f, Sound Try.prog f (Z14 f) := updP_ok Zo13 (fun_sound Zo13 none_soundD mixed Try.func84 cal84 comp84)
def Z15 : Phi := updP Z14 109 (denF Z14 none2 c109)
theorem Zo15 : ∀ f, Sound Try.prog f (Z15 f) := updP_ok Zo14 (fun_sound Zo14 none_soundD mixed Try.func109 cal109 comp109)
def Z16 : Phi := updP Z15 110 (denF Z15 none2 c110)
theorem Zo16 : ∀ f, Sound Try.prog f (Z16 f) := updP_ok Zo15 (fun_sound Zo15 none_soundD mixed Try.func110 cal110 comp110)
def Z17 : Phi := updP Z16 102 (denF Z16 none2 c102)
theorem Zo17 : ∀ f, Sound Try.prog f (Z17 f) := updP_ok Zo16 (fun_sound Zo16 none_soundD mixed Try.func102 cal102 comp102)
def Z18 : Phi := updP Z17 66 (denF Z17 none2 c66)
theorem Zo18 : ∀ f, Sound Try.prog f (Z18 f) := updP_ok Zo17 (fun_sound Zo17 none_soundD mixed Try.func66 cal66 comp66)
def Z19 : Phi := updP Z18 120 (denF Z18 none2 c120)
theorem Zo19 : ∀ f, Sound Try.prog f (Z19 f) := updP_ok Zo18 (fun_sound Zo18 none_soundD mixed Try.func120 cal120 comp120)
def Z20 : Phi := updP Z19 100 (denF Z19 none2 c100)
theorem Zo20 : ∀ f, Sound Try.prog f (Z20 f) := updP_ok Zo19 (fun_sound Zo19 none_soundD mixed Try.func100 cal100 comp100)
def Z21 : Phi := updP Z20 121 (denF Z20 none2 c121)
theorem Zo21 : ∀ f, Sound Try.prog f (Z21 f) := updP_ok Zo20 (fun_sound Zo20 none_soundD mixed Try.func121 cal121 comp121)
def Z22 : Phi := updP Z21 104 (denF Z21 none2 c104)
theorem Zo22 : ∀ f, Sound Try.prog f (Z22 f) := updP_ok Zo21 (fun_sound Zo21 none_soundD mixed Try.func104 cal104 comp104)
def Z23 : Phi := updP Z22 103 (denF Z22 none2 c103)
theorem Zo23 : ∀ f, Sound Try.prog f (Z23 f) := updP_ok Zo22 (fun_sound Zo22 none_soundD mixed Try.func103 cal103 comp103)
def Z24 : Phi := updP Z23 68 (denF Z23 none2 c68)
theorem Zo24 : ∀ f, Sound Try.prog f (Z24 f) := updP_ok Zo23 (fun_sound Zo23 none_soundD mixed Try.func68 cal68 comp68)
def Z25 : Phi := updP Z24 67 (denF Z24 none2 c67)
theorem Zo25 : ∀ f, Sound Try.prog f (Z25 f) := updP_ok Zo24 (fun_sound Zo24 none_soundD mixed Try.func67 cal67 comp67)
def Z26 : Phi := updP Z25 85 (denF Z25 none2 c85)
theorem Zo26 : ∀ f, Sound Try.prog f (Z26 f) := updP_ok Zo25 (fun_sound Zo25 none_soundD mixed Try.func85 cal85 comp85)
def ZD86 : Phi := updP none2 86 (denF Z26 none2 c86)
theorem ZDo86 : ∀ f, SoundD Try.prog f (ZD86 f) := Zpd none_soundD (fun_soundD Zo26 mixed Try.func86 cal86 comp86)
def Z28 : Phi := updP Z26 44 (denF Z26 ZD86 c44)
theorem Zo28 : ∀ f, Sound Try.prog f (Z28 f) := updP_ok Zo26 (fun_sound Zo26 ZDo86 mixed Try.func44 cal44 comp44)
def Z29 : Phi := updP Z28 51 (denF Z28 none2 c51)
theorem Zo29 : ∀ f, Sound Try.prog f (Z29 f) := updP_ok Zo28 (fun_sound Zo28 none_soundD mixed Try.func51 cal51 comp51)
def rTrue50 : List AVal → Option AVal
  | [] => some (.bool true)
  | _ => none
theorem s50 : Sound Try.prog 50 (pspec rTrue50) := by
  refine (fun_sound Zo29 none_soundD mixed Try.func50 cal50 comp50).pspec (φ := denF Z29 none2 c50) fun args v h => ?_
  unfold rTrue50 at h
  split at h
  · simp only [Option.some.injEq] at h; subst h
    exact ⟨rfl, rfl, closed_ok (by kernel_rfl)⟩
  · simp at h
def Z30 : Phi := updP Z29 50 (pspec rTrue50)
theorem Zo30 : ∀ f, Sound Try.prog f (Z30 f) := updP_ok Zo29 s50
def Z31 : Phi := updP Z30 87 (denF Z30 none2 c87)
theorem Zo31 : ∀ f, Sound Try.prog f (Z31 f) := updP_ok Zo30 (fun_sound Zo30 none_soundD mixed Try.func87 cal87 comp87)
def Z32 : Phi := updP Z31 47 (denF Z31 none2 c47)
theorem Zo32 : ∀ f, Sound Try.prog f (Z32 f) := updP_ok Zo31 (fun_sound Zo31 none_soundD mixed Try.func47 cal47 comp47)
def Z33 : Phi := updP Z32 49 (denF Z32 none2 c49)
theorem Zo33 : ∀ f, Sound Try.prog f (Z33 f) := updP_ok Zo32 (fun_sound Zo32 none_soundD mixed Try.func49 cal49 comp49)
def Z34 : Phi := updP Z33 58 (denF Z33 none2 c58)
theorem Zo34 : ∀ f, Sound Try.prog f (Z34 f) := updP_ok Zo33 (fun_sound Zo33 none_soundD mixed Try.func58 cal58 comp58)
def Z35 : Phi := updP Z34 59 (denF Z34 none2 c59)
theorem Zo35 : ∀ f, Sound Try.prog f (Z35 f) := updP_ok Zo34 (fun_sound Zo34 none_soundD mixed Try.func59 cal59 comp59)
def Z36 : Phi := updP Z35 101 (denF Z35 none2 c101)
theorem Zo36 : ∀ f, Sound Try.prog f (Z36 f) := updP_ok Zo35 (fun_sound Zo35 none_soundD mixed Try.func101 cal101 comp101)
def Z37 : Phi := updP Z36 60 (denF Z36 none2 c60)
theorem Zo37 : ∀ f, Sound Try.prog f (Z37 f) := updP_ok Zo36 (fun_sound Zo36 none_soundD mixed Try.func60 cal60 comp60)
def Z38 : Phi := updP Z37 61 (denF Z37 none2 c61)
theorem Zo38 : ∀ f, Sound Try.prog f (Z38 f) := updP_ok Zo37 (fun_sound Zo37 none_soundD mixed Try.func61 cal61 comp61)
def Z39 : Phi := updP Z38 62 (denF Z38 none2 c62)
theorem Zo39 : ∀ f, Sound Try.prog f (Z39 f) := updP_ok Zo38 (fun_sound Zo38 none_soundD mixed Try.func62 cal62 comp62)
def Z40 : Phi := updP Z39 63 (denF Z39 none2 c63)
theorem Zo40 : ∀ f, Sound Try.prog f (Z40 f) := updP_ok Zo39 (fun_sound Zo39 none_soundD mixed Try.func63 cal63 comp63)
def Z41 : Phi := updP Z40 48 (denF Z40 none2 c48)
theorem Zo41 : ∀ f, Sound Try.prog f (Z41 f) := updP_ok Zo40 (fun_sound Zo40 none_soundD mixed Try.func48 cal48 comp48)
end Go.Eng.SeatB

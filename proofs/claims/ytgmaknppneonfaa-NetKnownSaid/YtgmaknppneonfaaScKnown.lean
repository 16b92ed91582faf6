/- NetKnown answers true, whatever the input. No condition. -/
import Derived.Test.YtgmaknppneonfaaRows
import Derived.Test.YtgmaknppneonfaaScK
import Derived.Test.YtgmaknppneonfaaEngTop
namespace Go.Proofs.Ytgmaknppneonfaa.netKnown
open Go.ChangeShapes Go.WideShapes Go.ChangeAt Go.RowKit
set_option linter.unusedVariables false
theorem own : ownKnob Try.prog.godebug = none := by kernel_rfl
theorem laidOut : laidOutB Try.prog = true := by kernel_rfl
set_option maxRecDepth 100000 in
theorem lifted (os : Os) (started : os.Started) (H : Type) (enc : TypeId × Value → H) :
    ReturnsInHanded {} Try.checked os 5 .any (Rows.netKnownSpec.pre6 enc Try.prog Try.f5 Rows.netKnownRow.domain false) (Rows.netKnownSpec.post enc Try.prog Try.f5 false true false false) := by
  refine Eng.law_lifted (C := Try.checked) own started (by kernel_rfl) Try.func5
    (ChangeSpec.witness6 (enc := enc) (C := Try.checked) false ⟨#[], #[], []⟩ 8 (by kernel_rfl) (by kernel_rfl) (by kernel_rfl) (by kernel_rfl))
    rfl rfl Try.underlying4 ?_ laidOut (by kernel_rfl) Eng.SeatC.s5 ?_
  · intro ds hds
    rw [Try.params5] at hds
    match ds, hds with
    | [], _ => rfl
  · intro W base args ds p hval hA
    have h := Eng.argL_of hval hA
    change Eng.ArgL Try.prog W .any base Try.f5.params.toList args.toList at h
    rw [Try.params5] at h
    have e0 := Eng.argL_nil h
    rw [e0]
    exact ⟨_, rfl⟩
theorem over : Rows.netKnownRow.holds Try.pinned (OpenSpec.ofChange Rows.netKnownSpec) :=
  OpenClaim.holds_of_wide 5 Try.f5 rfl rfl rfl rfl rfl rfl rfl ⟨rfl, rfl, rfl, rfl, rfl⟩ rfl rfl rfl rfl rfl (by kernel_rfl) Try.func5 (by kernel_rfl)
    (of_decide_eq_true (by kernel_rfl)) (by unfold Func.isWrapper; first | (rw [if_pos (by decide +kernel)]; kernel_rfl) | (rw [if_neg (by decide +kernel)]; exact ⟨rfl, rfl⟩))
    (fun os started H enc _ => lifted os started H enc)
theorem proved : Rows.NetKnownSaid := over
#print axioms proved
end Go.Proofs.Ytgmaknppneonfaa.netKnown
namespace Go.Proofs.Ytgmaknppneonfaa
/-- The row, under a short name, for the claim. -/
theorem netKnown_holds : Rows.NetKnownSaid := netKnown.proved
end Go.Proofs.Ytgmaknppneonfaa

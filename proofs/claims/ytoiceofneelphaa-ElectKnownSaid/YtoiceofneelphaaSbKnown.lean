/- ElectKnown answers true, whatever the input. No condition. -/
import Derived.Test.YtoiceofneelphaaRows
import Derived.Test.YtoiceofneelphaaSbK
import Derived.Test.YtoiceofneelphaaEngTop
namespace Go.Proofs.Ytoiceofneelphaa.electKnown
open Go.ChangeShapes Go.WideShapes Go.ChangeAt Go.RowKit
set_option linter.unusedVariables false
theorem own : ownKnob Try.prog.godebug = none := by kernel_rfl
theorem laidOut : laidOutB Try.prog = true := by kernel_rfl
set_option maxRecDepth 100000 in
theorem lifted (os : Os) (started : os.Started) (H : Type) (enc : TypeId × Value → H) :
    ReturnsInHanded {} Try.checked os 7 .any (Rows.electKnownSpec.pre6 enc Try.prog Try.f7 Rows.electKnownRow.domain false) (Rows.electKnownSpec.post enc Try.prog Try.f7 false true false false) := by
  refine Eng.law_lifted (C := Try.checked) own started (by kernel_rfl) Try.func7
    (ChangeSpec.witness6 (enc := enc) (C := Try.checked) false ⟨#[], #[], []⟩ 8 (by kernel_rfl) (by kernel_rfl) (by kernel_rfl) (by kernel_rfl))
    rfl rfl Try.underlying4 ?_ laidOut (by kernel_rfl) Eng.SeatB.s7 ?_
  · intro ds hds
    rw [Try.params7] at hds
    match ds, hds with
    | [], _ => rfl
  · intro W base args ds p hval hA
    have h := Eng.argL_of hval hA
    change Eng.ArgL Try.prog W .any base Try.f7.params.toList args.toList at h
    rw [Try.params7] at h
    have e0 := Eng.argL_nil h
    rw [e0]
    exact ⟨_, rfl⟩
theorem over : Rows.electKnownRow.holds Try.pinned (OpenSpec.ofChange Rows.electKnownSpec) :=
  OpenClaim.holds_of_wide 7 Try.f7 rfl rfl rfl rfl rfl rfl rfl ⟨rfl, rfl, rfl, rfl, rfl⟩ rfl rfl rfl rfl rfl (by kernel_rfl) Try.func7 (by kernel_rfl)
    (of_decide_eq_true (by kernel_rfl)) (by unfold Func.isWrapper; first | (rw [if_pos (by decide +kernel)]; kernel_rfl) | (rw [if_neg (by decide +kernel)]; exact ⟨rfl, rfl⟩))
    (fun os started H enc _ => lifted os started H enc)
theorem proved : Rows.ElectKnownSaid := over
#print axioms proved
end Go.Proofs.Ytoiceofneelphaa.electKnown
namespace Go.Proofs.Ytoiceofneelphaa
/-- The row, under a short name, for the claim. -/
theorem electKnown_holds : Rows.ElectKnownSaid := electKnown.proved
end Go.Proofs.Ytoiceofneelphaa

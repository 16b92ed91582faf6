/- VoterKnown answers true, whatever the input. No condition. -/
import Derived.Test.YtoiceofneelphaaRows
import Derived.Test.YtoiceofneelphaaSbV
import Derived.Test.YtoiceofneelphaaEngTop
namespace Go.Proofs.Ytoiceofneelphaa.voterKnown
open Go.ChangeShapes Go.WideShapes Go.ChangeAt Go.RowKit
set_option linter.unusedVariables false
theorem own : ownKnob Try.prog.godebug = none := by kernel_rfl
theorem laidOut : laidOutB Try.prog = true := by kernel_rfl
set_option maxRecDepth 100000 in
theorem lifted (os : Os) (started : os.Started) (H : Type) (enc : TypeId × Value → H) :
    ReturnsInHanded {} Try.checked os 9 .any (Rows.voterKnownSpec.pre6 enc Try.prog Try.f9 Rows.voterKnownRow.domain false) (Rows.voterKnownSpec.post enc Try.prog Try.f9 false true false false) := by
  refine Eng.law_lifted (C := Try.checked) own started (by kernel_rfl) Try.func9
    (ChangeSpec.witness6 (enc := enc) (C := Try.checked) false ⟨#[], #[], []⟩ 8 (by kernel_rfl) (by kernel_rfl) (by kernel_rfl) (by kernel_rfl))
    rfl rfl Try.underlying4 ?_ laidOut (by kernel_rfl) Eng.SeatB.s9 ?_
  · intro ds hds
    rw [Try.params9] at hds
    match ds, hds with
    | [], _ => rfl
  · intro W base args ds p hval hA
    have h := Eng.argL_of hval hA
    change Eng.ArgL Try.prog W .any base Try.f9.params.toList args.toList at h
    rw [Try.params9] at h
    have e0 := Eng.argL_nil h
    rw [e0]
    exact ⟨_, rfl⟩
theorem over : Rows.voterKnownRow.holds Try.pinned (OpenSpec.ofChange Rows.voterKnownSpec) :=
  OpenClaim.holds_of_wide 9 Try.f9 rfl rfl rfl rfl rfl rfl rfl ⟨rfl, rfl, rfl, rfl, rfl⟩ rfl rfl rfl rfl rfl (by kernel_rfl) Try.func9 (by kernel_rfl)
    (of_decide_eq_true (by kernel_rfl)) (by unfold Func.isWrapper; first | (rw [if_pos (by decide +kernel)]; kernel_rfl) | (rw [if_neg (by decide +kernel)]; exact ⟨rfl, rfl⟩))
    (fun os started H enc _ => lifted os started H enc)
theorem proved : Rows.VoterKnownSaid := over
#print axioms proved
end Go.Proofs.Ytoiceofneelphaa.voterKnown
namespace Go.Proofs.Ytoiceofneelphaa
/-- The row, under a short name, for the claim. -/
theorem voterKnown_holds : Rows.VoterKnownSaid := voterKnown.proved
end Go.Proofs.Ytoiceofneelphaa

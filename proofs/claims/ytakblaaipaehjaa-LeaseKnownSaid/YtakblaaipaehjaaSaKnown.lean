/- LeaseKnown answers true, whatever the input. No condition. -/
import Derived.Test.YtakblaaipaehjaaRows
import Derived.Test.YtakblaaipaehjaaSaL
import Derived.Test.YtakblaaipaehjaaEngTop
namespace Go.Proofs.Ytakblaaipaehjaa.leaseKnown
open Go.ChangeShapes Go.WideShapes Go.ChangeAt Go.RowKit
set_option linter.unusedVariables false
theorem own : ownKnob Try.prog.godebug = none := by kernel_rfl
theorem laidOut : laidOutB Try.prog = true := by kernel_rfl
set_option maxRecDepth 100000 in
theorem lifted (os : Os) (started : os.Started) (H : Type) (enc : TypeId × Value → H) :
    ReturnsInHanded {} Try.checked os 6 .any (Rows.leaseKnownSpec.pre6 enc Try.prog Try.f6 Rows.leaseKnownRow.domain false) (Rows.leaseKnownSpec.post enc Try.prog Try.f6 false true false false) := by
  refine Eng.law_lifted (C := Try.checked) own started (by kernel_rfl) Try.func6
    (ChangeSpec.witness6 (enc := enc) (C := Try.checked) false ⟨#[], #[], []⟩ 8 (by kernel_rfl) (by kernel_rfl) (by kernel_rfl) (by kernel_rfl))
    rfl rfl Try.underlying4 ?_ laidOut (by kernel_rfl) Eng.SeatA.s6 ?_
  · intro ds hds
    rw [Try.params6] at hds
    match ds, hds with
    | [], _ => rfl
  · intro W base args ds p hval hA
    have h := Eng.argL_of hval hA
    change Eng.ArgL Try.prog W .any base Try.f6.params.toList args.toList at h
    rw [Try.params6] at h
    have e0 := Eng.argL_nil h
    rw [e0]
    exact ⟨_, rfl⟩
theorem over : Rows.leaseKnownRow.holds Try.pinned (OpenSpec.ofChange Rows.leaseKnownSpec) :=
  OpenClaim.holds_of_wide 6 Try.f6 rfl rfl rfl rfl rfl rfl rfl ⟨rfl, rfl, rfl, rfl, rfl⟩ rfl rfl rfl rfl rfl (by kernel_rfl) Try.func6 (by kernel_rfl)
    (of_decide_eq_true (by kernel_rfl)) (by unfold Func.isWrapper; first | (rw [if_pos (by decide +kernel)]; kernel_rfl) | (rw [if_neg (by decide +kernel)]; exact ⟨rfl, rfl⟩))
    (fun os started H enc _ => lifted os started H enc)
theorem proved : Rows.LeaseKnownSaid := over
#print axioms proved
end Go.Proofs.Ytakblaaipaehjaa.leaseKnown
namespace Go.Proofs.Ytakblaaipaehjaa
/-- The row, under a short name, for the claim. -/
theorem leaseKnown_holds : Rows.LeaseKnownSaid := leaseKnown.proved
end Go.Proofs.Ytakblaaipaehjaa

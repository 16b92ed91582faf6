/- RecordKnown answers true, whatever the input. No condition. -/
import Derived.Test.YtakblaaipaehjaaRows
import Derived.Test.YtakblaaipaehjaaSaN
import Derived.Test.YtakblaaipaehjaaEngTop
namespace Go.Proofs.Ytakblaaipaehjaa.recordKnown
open Go.ChangeShapes Go.WideShapes Go.ChangeAt Go.RowKit
set_option linter.unusedVariables false
theorem own : ownKnob Try.prog.godebug = none := by kernel_rfl
theorem laidOut : laidOutB Try.prog = true := by kernel_rfl
set_option maxRecDepth 100000 in
theorem lifted (os : Os) (started : os.Started) (H : Type) (enc : TypeId × Value → H) :
    ReturnsInHanded {} Try.checked os 11 .any (Rows.recordKnownSpec.pre6 enc Try.prog Try.f11 Rows.recordKnownRow.domain false) (Rows.recordKnownSpec.post enc Try.prog Try.f11 false true false false) := by
  refine Eng.law_lifted (C := Try.checked) own started (by kernel_rfl) Try.func11
    (ChangeSpec.witness6 (enc := enc) (C := Try.checked) false ⟨#[], #[], []⟩ 8 (by kernel_rfl) (by kernel_rfl) (by kernel_rfl) (by kernel_rfl))
    rfl rfl Try.underlying4 ?_ laidOut (by kernel_rfl) Eng.SeatA.s11 ?_
  · intro ds hds
    rw [Try.params11] at hds
    match ds, hds with
    | [], _ => rfl
  · intro W base args ds p hval hA
    have h := Eng.argL_of hval hA
    change Eng.ArgL Try.prog W .any base Try.f11.params.toList args.toList at h
    rw [Try.params11] at h
    have e0 := Eng.argL_nil h
    rw [e0]
    exact ⟨_, rfl⟩
theorem over : Rows.recordKnownRow.holds Try.pinned (OpenSpec.ofChange Rows.recordKnownSpec) :=
  OpenClaim.holds_of_wide 11 Try.f11 rfl rfl rfl rfl rfl rfl rfl ⟨rfl, rfl, rfl, rfl, rfl⟩ rfl rfl rfl rfl rfl (by kernel_rfl) Try.func11 (by kernel_rfl)
    (of_decide_eq_true (by kernel_rfl)) (by unfold Func.isWrapper; first | (rw [if_pos (by decide +kernel)]; kernel_rfl) | (rw [if_neg (by decide +kernel)]; exact ⟨rfl, rfl⟩))
    (fun os started H enc _ => lifted os started H enc)
theorem proved : Rows.RecordKnownSaid := over
#print axioms proved
end Go.Proofs.Ytakblaaipaehjaa.recordKnown
namespace Go.Proofs.Ytakblaaipaehjaa
/-- The row, under a short name, for the claim. -/
theorem recordKnown_holds : Rows.RecordKnownSaid := recordKnown.proved
end Go.Proofs.Ytakblaaipaehjaa

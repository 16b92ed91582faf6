/- RecordNexts answers true, whatever the input. No condition. -/
import Derived.Test.YtakblaaipaehjaaRows
import Derived.Test.YtakblaaipaehjaaSaN
import Derived.Test.YtakblaaipaehjaaEngTop
namespace Go.Proofs.Ytakblaaipaehjaa.recordNexts
open Go.ChangeShapes Go.WideShapes Go.ChangeAt Go.RowKit
set_option linter.unusedVariables false
theorem own : ownKnob Try.prog.godebug = none := by kernel_rfl
theorem laidOut : laidOutB Try.prog = true := by kernel_rfl
set_option maxRecDepth 100000 in
theorem lifted (os : Os) (started : os.Started) (H : Type) (enc : TypeId × Value → H) :
    ReturnsInHanded {} Try.checked os 10 .any (Rows.recordNextsSpec.pre6 enc Try.prog Try.f10 Rows.recordNextsRow.domain false) (Rows.recordNextsSpec.post enc Try.prog Try.f10 false true false false) := by
  refine Eng.law_lifted (C := Try.checked) own started (by kernel_rfl) Try.func10
    (ChangeSpec.witness6 (enc := enc) (C := Try.checked) false ⟨#[], #[.agg #[.int .i64 0, .int .i64 0, .int .i64 0], .int .i64 0, .int .i64 0], []⟩ 8 (by kernel_rfl) (by kernel_rfl) (by kernel_rfl) (by kernel_rfl))
    rfl rfl Try.underlying4 ?_ laidOut (by kernel_rfl) Eng.SeatA.s10 ?_
  · intro ds hds
    rw [Try.params10] at hds
    match ds, hds with
    | [d1, d2, d3], _ => rfl
  · intro W base args ds p hval hA
    have h := Eng.argL_of hval hA
    change Eng.ArgL Try.prog W .any base Try.f10.params.toList args.toList at h
    rw [Try.params10] at h
    obtain ⟨v0, m0, e0, k0, h⟩ := Eng.argL_cons h
    obtain ⟨a1, m1, rfl, k1, h⟩ := Eng.argL_int h Try.underlying3
    obtain ⟨a2, m2, rfl, k2, h⟩ := Eng.argL_int h Try.underlying3
    obtain rfl := Eng.argL_nil h
    obtain ⟨l0, rfl, f0⟩ := Eng.agg_of ⟨_, Try.underlying48⟩ (ts := [3, 3, 3]) (by kernel_rfl) (by kernel_rfl) k0
    obtain ⟨b0x0, n0x0, rfl, j0x0, f0⟩ := Eng.fit_int f0 Try.underlying3
    obtain ⟨b0x1, n0x1, rfl, j0x1, f0⟩ := Eng.fit_int f0 Try.underlying3
    obtain ⟨b0x2, n0x2, rfl, j0x2, f0⟩ := Eng.fit_int f0 Try.underlying3
    obtain rfl := Eng.fit_nil f0
    rw [e0]
    exact ⟨_, rfl⟩
theorem over : Rows.recordNextsRow.holds Try.pinned (OpenSpec.ofChange Rows.recordNextsSpec) :=
  OpenClaim.holds_of_wide 10 Try.f10 rfl rfl rfl rfl rfl rfl rfl ⟨rfl, rfl, rfl, rfl, rfl⟩ rfl rfl rfl rfl rfl (by kernel_rfl) Try.func10 (by kernel_rfl)
    (of_decide_eq_true (by kernel_rfl)) (by unfold Func.isWrapper; first | (rw [if_pos (by decide +kernel)]; kernel_rfl) | (rw [if_neg (by decide +kernel)]; exact ⟨rfl, rfl⟩))
    (fun os started H enc _ => lifted os started H enc)
theorem proved : Rows.RecordNextsSaid := over
#print axioms proved
end Go.Proofs.Ytakblaaipaehjaa.recordNexts
namespace Go.Proofs.Ytakblaaipaehjaa
/-- The row, under a short name, for the claim. -/
theorem recordNexts_holds : Rows.RecordNextsSaid := recordNexts.proved
end Go.Proofs.Ytakblaaipaehjaa

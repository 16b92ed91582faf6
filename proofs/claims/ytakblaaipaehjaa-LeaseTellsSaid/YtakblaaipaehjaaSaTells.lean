/- LeaseTells answers true, whatever the input. No condition. -/
import Derived.Test.YtakblaaipaehjaaRows
import Derived.Test.YtakblaaipaehjaaSaL
import Derived.Test.YtakblaaipaehjaaEngTop
namespace Go.Proofs.Ytakblaaipaehjaa.leaseTells
open Go.ChangeShapes Go.WideShapes Go.ChangeAt Go.RowKit
set_option linter.unusedVariables false
theorem own : ownKnob Try.prog.godebug = none := by kernel_rfl
theorem laidOut : laidOutB Try.prog = true := by kernel_rfl
set_option maxRecDepth 100000 in
theorem lifted (os : Os) (started : os.Started) (H : Type) (enc : TypeId × Value → H) :
    ReturnsInHanded {} Try.checked os 3 .any (Rows.leaseTellsSpec.pre6 enc Try.prog Try.f3 Rows.leaseTellsRow.domain false) (Rows.leaseTellsSpec.post enc Try.prog Try.f3 false true false false) := by
  refine Eng.law_lifted (C := Try.checked) own started (by kernel_rfl) Try.func3
    (ChangeSpec.witness6 (enc := enc) (C := Try.checked) false ⟨#[], #[.int .i64 0, .int .i64 0, .agg #[.int .i64 0, .int .i64 0], .int .i64 0], []⟩ 8 (by kernel_rfl) (by kernel_rfl) (by kernel_rfl) (by kernel_rfl))
    rfl rfl Try.underlying4 ?_ laidOut (by kernel_rfl) Eng.SeatA.s3 ?_
  · intro ds hds
    rw [Try.params3] at hds
    match ds, hds with
    | [d1, d2, d3, d4], _ => rfl
  · intro W base args ds p hval hA
    have h := Eng.argL_of hval hA
    change Eng.ArgL Try.prog W .any base Try.f3.params.toList args.toList at h
    rw [Try.params3] at h
    obtain ⟨a0, m0, e0, k0, h⟩ := Eng.argL_int h Try.underlying3
    obtain ⟨a1, m1, rfl, k1, h⟩ := Eng.argL_int h Try.underlying3
    obtain ⟨v2, m2, rfl, k2, h⟩ := Eng.argL_cons h
    obtain ⟨a3, m3, rfl, k3, h⟩ := Eng.argL_int h Try.underlying3
    obtain rfl := Eng.argL_nil h
    obtain ⟨l2, rfl, f2⟩ := Eng.agg_of ⟨_, Try.underlying23⟩ (ts := [3, 3]) (by kernel_rfl) (by kernel_rfl) k2
    obtain ⟨b0, n0, rfl, j0, f2⟩ := Eng.fit_int f2 Try.underlying3
    obtain ⟨b1, n1, rfl, j1, f2⟩ := Eng.fit_int f2 Try.underlying3
    obtain rfl := Eng.fit_nil f2
    rw [e0]
    exact ⟨_, rfl⟩
theorem over : Rows.leaseTellsRow.holds Try.pinned (OpenSpec.ofChange Rows.leaseTellsSpec) :=
  OpenClaim.holds_of_wide 3 Try.f3 rfl rfl rfl rfl rfl rfl rfl ⟨rfl, rfl, rfl, rfl, rfl⟩ rfl rfl rfl rfl rfl (by kernel_rfl) Try.func3 (by kernel_rfl)
    (of_decide_eq_true (by kernel_rfl)) (by unfold Func.isWrapper; first | (rw [if_pos (by decide +kernel)]; kernel_rfl) | (rw [if_neg (by decide +kernel)]; exact ⟨rfl, rfl⟩))
    (fun os started H enc _ => lifted os started H enc)
theorem proved : Rows.LeaseTellsSaid := over
#print axioms proved
end Go.Proofs.Ytakblaaipaehjaa.leaseTells
namespace Go.Proofs.Ytakblaaipaehjaa
/-- The row, under a short name, for the claim. -/
theorem leaseTells_holds : Rows.LeaseTellsSaid := leaseTells.proved
end Go.Proofs.Ytakblaaipaehjaa

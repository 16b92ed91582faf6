/- RecordOrder answers true, whatever the input. No condition. -/
import Derived.Test.YtakblaaipaehjaaRows
import Derived.Test.YtakblaaipaehjaaSaO
import Derived.Test.YtakblaaipaehjaaEngTop
namespace Go.Proofs.Ytakblaaipaehjaa.recordOrder
open Go.ChangeShapes Go.WideShapes Go.ChangeAt Go.RowKit
set_option linter.unusedVariables false
theorem own : ownKnob Try.prog.godebug = none := by kernel_rfl
theorem laidOut : laidOutB Try.prog = true := by kernel_rfl
set_option maxRecDepth 100000 in
theorem lifted (os : Os) (started : os.Started) (H : Type) (enc : TypeId × Value → H) :
    ReturnsInHanded {} Try.checked os 12 .any (Rows.recordOrderSpec.pre6 enc Try.prog Try.f12 Rows.recordOrderRow.domain false) (Rows.recordOrderSpec.post enc Try.prog Try.f12 false true false false) := by
  refine Eng.law_lifted (C := Try.checked) own started (by kernel_rfl) Try.func12
    (ChangeSpec.witness6 (enc := enc) (C := Try.checked) false ⟨#[], #[.agg #[.int .i64 0, .int .i64 0, .int .i64 0], .agg #[.int .i64 0, .int .i64 0, .int .i64 0], .agg #[.int .i64 0, .int .i64 0, .int .i64 0], .int .i64 0, .int .i64 0, .int .i64 0], []⟩ 8 (by kernel_rfl) (by kernel_rfl) (by kernel_rfl) (by kernel_rfl))
    rfl rfl Try.underlying4 ?_ laidOut (by kernel_rfl) Eng.SeatA.s12 ?_
  · intro ds hds
    rw [Try.params12] at hds
    match ds, hds with
    | [d1, d2, d3, d4, d5, d6], _ => rfl
  · intro W base args ds p hval hA
    have h := Eng.argL_of hval hA
    change Eng.ArgL Try.prog W .any base Try.f12.params.toList args.toList at h
    rw [Try.params12] at h
    obtain ⟨v0, m0, e0, k0, h⟩ := Eng.argL_cons h
    obtain ⟨v1, m1, rfl, k1, h⟩ := Eng.argL_cons h
    obtain ⟨v2, m2, rfl, k2, h⟩ := Eng.argL_cons h
    obtain ⟨a3, m3, rfl, k3, h⟩ := Eng.argL_int h Try.underlying3
    obtain ⟨a4, m4, rfl, k4, h⟩ := Eng.argL_int h Try.underlying3
    obtain ⟨a5, m5, rfl, k5, h⟩ := Eng.argL_int h Try.underlying3
    obtain rfl := Eng.argL_nil h
    obtain ⟨l0, rfl, f0⟩ := Eng.agg_of ⟨_, Try.underlying48⟩ (ts := [3, 3, 3]) (by kernel_rfl) (by kernel_rfl) k0
    obtain ⟨b0x0, n0x0, rfl, j0x0, f0⟩ := Eng.fit_int f0 Try.underlying3
    obtain ⟨b0x1, n0x1, rfl, j0x1, f0⟩ := Eng.fit_int f0 Try.underlying3
    obtain ⟨b0x2, n0x2, rfl, j0x2, f0⟩ := Eng.fit_int f0 Try.underlying3
    obtain rfl := Eng.fit_nil f0
    obtain ⟨l1, rfl, f1⟩ := Eng.agg_of ⟨_, Try.underlying48⟩ (ts := [3, 3, 3]) (by kernel_rfl) (by kernel_rfl) k1
    obtain ⟨b1x0, n1x0, rfl, j1x0, f1⟩ := Eng.fit_int f1 Try.underlying3
    obtain ⟨b1x1, n1x1, rfl, j1x1, f1⟩ := Eng.fit_int f1 Try.underlying3
    obtain ⟨b1x2, n1x2, rfl, j1x2, f1⟩ := Eng.fit_int f1 Try.underlying3
    obtain rfl := Eng.fit_nil f1
    obtain ⟨l2, rfl, f2⟩ := Eng.agg_of ⟨_, Try.underlying48⟩ (ts := [3, 3, 3]) (by kernel_rfl) (by kernel_rfl) k2
    obtain ⟨b2x0, n2x0, rfl, j2x0, f2⟩ := Eng.fit_int f2 Try.underlying3
    obtain ⟨b2x1, n2x1, rfl, j2x1, f2⟩ := Eng.fit_int f2 Try.underlying3
    obtain ⟨b2x2, n2x2, rfl, j2x2, f2⟩ := Eng.fit_int f2 Try.underlying3
    obtain rfl := Eng.fit_nil f2
    rw [e0]
    exact ⟨_, rfl⟩
theorem over : Rows.recordOrderRow.holds Try.pinned (OpenSpec.ofChange Rows.recordOrderSpec) :=
  OpenClaim.holds_of_wide 12 Try.f12 rfl rfl rfl rfl rfl rfl rfl ⟨rfl, rfl, rfl, rfl, rfl⟩ rfl rfl rfl rfl rfl (by kernel_rfl) Try.func12 (by kernel_rfl)
    (of_decide_eq_true (by kernel_rfl)) (by unfold Func.isWrapper; first | (rw [if_pos (by decide +kernel)]; kernel_rfl) | (rw [if_neg (by decide +kernel)]; exact ⟨rfl, rfl⟩))
    (fun os started H enc _ => lifted os started H enc)
theorem proved : Rows.RecordOrderSaid := over
#print axioms proved
end Go.Proofs.Ytakblaaipaehjaa.recordOrder
namespace Go.Proofs.Ytakblaaipaehjaa
/-- The row, under a short name, for the claim. -/
theorem recordOrder_holds : Rows.RecordOrderSaid := recordOrder.proved
end Go.Proofs.Ytakblaaipaehjaa

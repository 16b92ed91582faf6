/- RecordMost answers true, whatever the input. No condition. -/
import Derived.Test.YtakblaaipaehjaaRows
import Derived.Test.YtakblaaipaehjaaSaP
import Derived.Test.YtakblaaipaehjaaEngTop
namespace Go.Proofs.Ytakblaaipaehjaa.recordMost
open Go.ChangeShapes Go.WideShapes Go.ChangeAt Go.RowKit
set_option linter.unusedVariables false
theorem own : ownKnob Try.prog.godebug = none := by kernel_rfl
theorem laidOut : laidOutB Try.prog = true := by kernel_rfl
set_option maxRecDepth 100000 in
theorem lifted (os : Os) (started : os.Started) (H : Type) (enc : TypeId × Value → H) :
    ReturnsInHanded {} Try.checked os 13 .any (Rows.recordMostSpec.pre6 enc Try.prog Try.f13 Rows.recordMostRow.domain false) (Rows.recordMostSpec.post enc Try.prog Try.f13 false true false false) := by
  refine Eng.law_lifted (C := Try.checked) own started (by kernel_rfl) Try.func13
    (ChangeSpec.witness6 (enc := enc) (C := Try.checked) false ⟨#[], #[.agg #[.int .i64 0, .int .i64 0, .int .i64 0], .agg #[.int .i64 0, .int .i64 0, .int .i64 0, .int .i64 0, .int .i64 0, .int .i64 0, .int .i64 0, .int .i64 0, .int .i64 0], .int .i64 0, .int .i64 0], []⟩ 8 (by kernel_rfl) (by kernel_rfl) (by kernel_rfl) (by kernel_rfl))
    rfl rfl Try.underlying4 ?_ laidOut (by kernel_rfl) Eng.SeatA.s13 ?_
  · intro ds hds
    rw [Try.params13] at hds
    match ds, hds with
    | [d1, d2, d3, d4], _ => rfl
  · intro W base args ds p hval hA
    have h := Eng.argL_of hval hA
    change Eng.ArgL Try.prog W .any base Try.f13.params.toList args.toList at h
    rw [Try.params13] at h
    obtain ⟨v0, m0, e0, k0, h⟩ := Eng.argL_cons h
    obtain ⟨v1, m1, rfl, k1, h⟩ := Eng.argL_cons h
    obtain ⟨a2, m2, rfl, k2, h⟩ := Eng.argL_int h Try.underlying3
    obtain ⟨a3, m3, rfl, k3, h⟩ := Eng.argL_int h Try.underlying3
    obtain rfl := Eng.argL_nil h
    obtain ⟨l0, rfl, f0⟩ := Eng.agg_of ⟨_, Try.underlying48⟩ (ts := [3, 3, 3]) (by kernel_rfl) (by kernel_rfl) k0
    obtain ⟨b0x0, n0x0, rfl, j0x0, f0⟩ := Eng.fit_int f0 Try.underlying3
    obtain ⟨b0x1, n0x1, rfl, j0x1, f0⟩ := Eng.fit_int f0 Try.underlying3
    obtain ⟨b0x2, n0x2, rfl, j0x2, f0⟩ := Eng.fit_int f0 Try.underlying3
    obtain rfl := Eng.fit_nil f0
    obtain ⟨l1, rfl, f1⟩ := Eng.arr_of ⟨_, _, Try.underlying60⟩ (ts := [3, 3, 3, 3, 3, 3, 3, 3, 3]) (by kernel_rfl) (by kernel_rfl) k1
    obtain ⟨b1x0, n1x0, rfl, j1x0, f1⟩ := Eng.fit_int f1 Try.underlying3
    obtain ⟨b1x1, n1x1, rfl, j1x1, f1⟩ := Eng.fit_int f1 Try.underlying3
    obtain ⟨b1x2, n1x2, rfl, j1x2, f1⟩ := Eng.fit_int f1 Try.underlying3
    obtain ⟨b1x3, n1x3, rfl, j1x3, f1⟩ := Eng.fit_int f1 Try.underlying3
    obtain ⟨b1x4, n1x4, rfl, j1x4, f1⟩ := Eng.fit_int f1 Try.underlying3
    obtain ⟨b1x5, n1x5, rfl, j1x5, f1⟩ := Eng.fit_int f1 Try.underlying3
    obtain ⟨b1x6, n1x6, rfl, j1x6, f1⟩ := Eng.fit_int f1 Try.underlying3
    obtain ⟨b1x7, n1x7, rfl, j1x7, f1⟩ := Eng.fit_int f1 Try.underlying3
    obtain ⟨b1x8, n1x8, rfl, j1x8, f1⟩ := Eng.fit_int f1 Try.underlying3
    obtain rfl := Eng.fit_nil f1
    rw [e0]
    exact ⟨_, rfl⟩
theorem over : Rows.recordMostRow.holds Try.pinned (OpenSpec.ofChange Rows.recordMostSpec) :=
  OpenClaim.holds_of_wide 13 Try.f13 rfl rfl rfl rfl rfl rfl rfl ⟨rfl, rfl, rfl, rfl, rfl⟩ rfl rfl rfl rfl rfl (by kernel_rfl) Try.func13 (by kernel_rfl)
    (of_decide_eq_true (by kernel_rfl)) (by unfold Func.isWrapper; first | (rw [if_pos (by decide +kernel)]; kernel_rfl) | (rw [if_neg (by decide +kernel)]; exact ⟨rfl, rfl⟩))
    (fun os started H enc _ => lifted os started H enc)
theorem proved : Rows.RecordMostSaid := over
#print axioms proved
end Go.Proofs.Ytakblaaipaehjaa.recordMost
namespace Go.Proofs.Ytakblaaipaehjaa
/-- The row, under a short name, for the claim. -/
theorem recordMost_holds : Rows.RecordMostSaid := recordMost.proved
end Go.Proofs.Ytakblaaipaehjaa

/- NetFull answers true, whatever the input. No condition. -/
import Derived.Test.YtgmaknppneonfaaRows
import Derived.Test.YtgmaknppneonfaaScD
import Derived.Test.YtgmaknppneonfaaEngTop
namespace Go.Proofs.Ytgmaknppneonfaa.netFull
open Go.ChangeShapes Go.WideShapes Go.ChangeAt Go.RowKit
set_option linter.unusedVariables false
theorem own : ownKnob Try.prog.godebug = none := by kernel_rfl
theorem laidOut : laidOutB Try.prog = true := by kernel_rfl
set_option maxRecDepth 100000 in
theorem lifted (os : Os) (started : os.Started) (H : Type) (enc : TypeId × Value → H) :
    ReturnsInHanded {} Try.checked os 4 .any (Rows.netFullSpec.pre6 enc Try.prog Try.f4 Rows.netFullRow.domain false) (Rows.netFullSpec.post enc Try.prog Try.f4 false true false false) := by
  refine Eng.law_lifted (C := Try.checked) own started (by kernel_rfl) Try.func4
    (ChangeSpec.witness6 (enc := enc) (C := Try.checked) false ⟨#[], #[.int .i64 0, .int .i64 0], []⟩ 8 (by kernel_rfl) (by kernel_rfl) (by kernel_rfl) (by kernel_rfl))
    rfl rfl Try.underlying4 ?_ laidOut (by kernel_rfl) Eng.SeatC.s4 ?_
  · intro ds hds
    rw [Try.params4] at hds
    match ds, hds with
    | [d1, d2], _ => rfl
  · intro W base args ds p hval hA
    have h := Eng.argL_of hval hA
    change Eng.ArgL Try.prog W .any base Try.f4.params.toList args.toList at h
    rw [Try.params4] at h
    obtain ⟨a0, m0, e0, k0, h⟩ := Eng.argL_int h Try.underlying3
    obtain ⟨a1, m1, rfl, k1, h⟩ := Eng.argL_int h Try.underlying3
    obtain rfl := Eng.argL_nil h
    rw [e0]
    exact ⟨_, rfl⟩
theorem over : Rows.netFullRow.holds Try.pinned (OpenSpec.ofChange Rows.netFullSpec) :=
  OpenClaim.holds_of_wide 4 Try.f4 rfl rfl rfl rfl rfl rfl rfl ⟨rfl, rfl, rfl, rfl, rfl⟩ rfl rfl rfl rfl rfl (by kernel_rfl) Try.func4 (by kernel_rfl)
    (of_decide_eq_true (by kernel_rfl)) (by unfold Func.isWrapper; first | (rw [if_pos (by decide +kernel)]; kernel_rfl) | (rw [if_neg (by decide +kernel)]; exact ⟨rfl, rfl⟩))
    (fun os started H enc _ => lifted os started H enc)
theorem proved : Rows.NetFullSaid := over
#print axioms proved
end Go.Proofs.Ytgmaknppneonfaa.netFull
namespace Go.Proofs.Ytgmaknppneonfaa
/-- The row, under a short name, for the claim. -/
theorem netFull_holds : Rows.NetFullSaid := netFull.proved
end Go.Proofs.Ytgmaknppneonfaa

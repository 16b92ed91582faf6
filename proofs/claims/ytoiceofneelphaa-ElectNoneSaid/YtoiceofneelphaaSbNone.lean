/- ElectNone answers true, whatever the input. No condition. -/
import Derived.Test.YtoiceofneelphaaRows
import Derived.Test.YtoiceofneelphaaSbY
import Derived.Test.YtoiceofneelphaaEngTop
namespace Go.Proofs.Ytoiceofneelphaa.electNone
open Go.ChangeShapes Go.WideShapes Go.ChangeAt Go.RowKit
set_option linter.unusedVariables false
theorem own : ownKnob Try.prog.godebug = none := by kernel_rfl
theorem laidOut : laidOutB Try.prog = true := by kernel_rfl
set_option maxRecDepth 100000 in
theorem lifted (os : Os) (started : os.Started) (H : Type) (enc : TypeId × Value → H) :
    ReturnsInHanded {} Try.checked os 5 .any (Rows.electNoneSpec.pre6 enc Try.prog Try.f5 Rows.electNoneRow.domain false) (Rows.electNoneSpec.post enc Try.prog Try.f5 false true false false) := by
  refine Eng.law_lifted (C := Try.checked) own started (by kernel_rfl) Try.func5
    (ChangeSpec.witness6 (enc := enc) (C := Try.checked) false ⟨#[], #[.agg #[.int .i64 0, .int .i64 0, .int .i64 0, .int .i64 0, .int .i64 0, .int .i64 0, .bool false, .int .i64 0, .int .i64 0, .int .i64 0, .int .u64 0, .slice none 0 0], .int .i64 0, .int .i64 0], []⟩ 8 (by kernel_rfl) (by kernel_rfl) (by kernel_rfl) (by kernel_rfl))
    rfl rfl Try.underlying4 ?_ laidOut (by kernel_rfl) Eng.SeatB.s5 ?_
  · intro ds hds
    rw [Try.params5] at hds
    match ds, hds with
    | [d1, d2, d3], _ => rfl
  · intro W base args ds p hval hA
    have h := Eng.argL_of hval hA
    change Eng.ArgL Try.prog W .any base Try.f5.params.toList args.toList at h
    change DataW.TrodAll enc Try.prog W 0 (fun _ => true) true Try.f5.params.toList args.toList ds p at hA
    rw [Try.params5] at h hA
    obtain ⟨a0, m0, e0, k0, h⟩ := Eng.argL_cons h
    obtain ⟨a1, m1, rfl, k1, h⟩ := Eng.argL_cons h
    obtain ⟨a2, m2, rfl, k2, h⟩ := Eng.argL_cons h
    obtain rfl := Eng.argL_nil h
    rw [e0] at hA
    obtain ⟨_, _, d0, ds0, p0, q0, hargs, rfl, rfl, h0, r0⟩ := trodAll_cons hA
    obtain ⟨rfl, rfl⟩ := List.cons.inj hargs
    obtain ⟨n1, rfl, _⟩ := Eng.int_of Try.underlying3 k1
    obtain ⟨n2, rfl, _⟩ := Eng.int_of Try.underlying3 k2
    rw [e0]
    show ∃ H', Eng.denF Eng.SeatB.Φ10 Eng.none2 Eng.SeatB.c5 [Eng.avv W.heap.size a0, .int .i64 n1, .int .i64 n2] (Eng.heapOf W) = _
    obtain ⟨k, fr, t, sq, st, bl, ok, rt, rn, rs, bits, d, n, hv, hd, hl⟩ := Eng.SeatB.msgv_of (n := 3) ⟨_, Try.underlying39⟩ (ts := [3, 3, 3, 3, 3, 3, 4, 3, 3, 3, 36, 37]) (by kernel_rfl) (by kernel_rfl) (by kernel_rfl) k0 h0
    rw [hv]; exact Eng.SeatB.law5 hd hl
theorem over : Rows.electNoneRow.holds Try.pinned (OpenSpec.ofChange Rows.electNoneSpec) :=
  OpenClaim.holds_of_wide 5 Try.f5 rfl rfl rfl rfl rfl rfl rfl ⟨rfl, rfl, rfl, rfl, rfl⟩ rfl rfl rfl rfl rfl (by kernel_rfl) Try.func5 (by kernel_rfl)
    (of_decide_eq_true (by kernel_rfl)) (by unfold Func.isWrapper; first | (rw [if_pos (by decide +kernel)]; kernel_rfl) | (rw [if_neg (by decide +kernel)]; exact ⟨rfl, rfl⟩))
    (fun os started H enc _ => lifted os started H enc)
theorem proved : Rows.ElectNoneSaid := over
#print axioms proved
end Go.Proofs.Ytoiceofneelphaa.electNone
namespace Go.Proofs.Ytoiceofneelphaa
/-- The row, under a short name, for the claim. -/
theorem electNone_holds : Rows.ElectNoneSaid := electNone.proved
end Go.Proofs.Ytoiceofneelphaa

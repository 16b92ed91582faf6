/- VoterNone answers true, whatever the input. No condition. -/
import Derived.Test.YtoiceofneelphaaRows
import Derived.Test.YtoiceofneelphaaSbZR
import Derived.Test.YtoiceofneelphaaEngTop
namespace Go.Proofs.Ytoiceofneelphaa.voterNone
open Go.ChangeShapes Go.WideShapes Go.ChangeAt Go.RowKit
set_option linter.unusedVariables false
theorem own : ownKnob Try.prog.godebug = none := by kernel_rfl
theorem laidOut : laidOutB Try.prog = true := by kernel_rfl
set_option maxRecDepth 100000 in
theorem lifted (os : Os) (started : os.Started) (H : Type) (enc : TypeId × Value → H) :
    ReturnsInHanded {} Try.checked os 12 .any (Rows.voterNoneSpec.pre6 enc Try.prog Try.f12 Rows.voterNoneRow.domain false) (Rows.voterNoneSpec.post enc Try.prog Try.f12 false true false false) := by
  refine Eng.law_lifted' (C := Try.checked) own started (by kernel_rfl) Try.func12
    (ChangeSpec.witness6 (enc := enc) (C := Try.checked) false ⟨#[], #[.agg #[.int .i64 0, .int .i64 0, .int .i64 0, .int .i64 0, .int .i64 0, .int .i64 0, .int .i64 0, .int .i64 0, .int .i64 0, .bool false, .int .i64 0, .int .i64 0, .int .i64 0, .int .u64 0, .slice none 0 0, .int .i64 0, .int .i64 0, .int .i64 0]], []⟩ 8 (by kernel_rfl) (by kernel_rfl) (by kernel_rfl) (by kernel_rfl))
    rfl rfl Try.underlying4 ?_ laidOut (by kernel_rfl) Eng.SeatB.s12 ?_
  · intro ds hds
    rw [Try.params12] at hds
    match ds, hds with
    | [d1], _ => rfl
  · intro W base args ds p hval hA
    have h := Eng.argL_of hval hA
    change Eng.ArgL Try.prog W .any base Try.f12.params.toList args.toList at h
    change DataW.TrodAll enc Try.prog W 0 (fun _ => true) true Try.f12.params.toList args.toList ds p at hA
    rw [Try.params12] at h hA
    obtain ⟨a0, m0, e0, k0, h⟩ := Eng.argL_cons h
    obtain rfl := Eng.argL_nil h
    rw [e0] at hA
    obtain ⟨_, _, d0, ds0, p0, q0, hargs, rfl, rfl, h0, r0⟩ := trodAll_cons hA
    obtain ⟨rfl, rfl⟩ := List.cons.inj hargs
    refine ⟨[Eng.avr a0], by rw [e0]; exact Eng.cvs_avr _ [a0], ?_⟩
    obtain ⟨kd, nw, tm, k, fr, t, sq, st, bl, ok, rt, rn, rs, bits, a, n, c, r1, r2, r3, hv⟩ := Eng.SeatB.actv_of (n := 4) ⟨_, Try.underlying89⟩ (ts := [3, 3, 3, 3, 3, 3, 3, 3, 3, 4, 3, 3, 3, 36, 37, 3, 3, 3]) (by kernel_rfl) (by kernel_rfl) (by kernel_rfl) k0 h0
    rw [hv]
    exact ⟨_, rfl⟩
theorem over : Rows.voterNoneRow.holds Try.pinned (OpenSpec.ofChange Rows.voterNoneSpec) :=
  OpenClaim.holds_of_wide 12 Try.f12 rfl rfl rfl rfl rfl rfl rfl ⟨rfl, rfl, rfl, rfl, rfl⟩ rfl rfl rfl rfl rfl (by kernel_rfl) Try.func12 (by kernel_rfl)
    (of_decide_eq_true (by kernel_rfl)) (by unfold Func.isWrapper; first | (rw [if_pos (by decide +kernel)]; kernel_rfl) | (rw [if_neg (by decide +kernel)]; exact ⟨rfl, rfl⟩))
    (fun os started H enc _ => lifted os started H enc)
theorem proved : Rows.VoterNoneSaid := over
#print axioms proved
end Go.Proofs.Ytoiceofneelphaa.voterNone
namespace Go.Proofs.Ytoiceofneelphaa
/-- The row, under a short name, for the claim. -/
theorem voterNone_holds : Rows.VoterNoneSaid := voterNone.proved
end Go.Proofs.Ytoiceofneelphaa

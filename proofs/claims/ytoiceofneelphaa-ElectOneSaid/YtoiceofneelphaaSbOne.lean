/- ElectOne answers true, whatever the input. No condition. -/
import Derived.Test.YtoiceofneelphaaRows
import Derived.Test.YtoiceofneelphaaSbOD
import Derived.Test.YtoiceofneelphaaEngTop
namespace Go.Proofs.Ytoiceofneelphaa.electOne
open Go.ChangeShapes Go.WideShapes Go.ChangeAt Go.RowKit
set_option linter.unusedVariables false
theorem own : ownKnob Try.prog.godebug = none := by kernel_rfl
theorem laidOut : laidOutB Try.prog = true := by kernel_rfl
set_option maxRecDepth 100000 in
theorem lifted (os : Os) (started : os.Started) (H : Type) (enc : TypeId × Value → H) :
    ReturnsInHanded {} Try.checked os 8 .any (Rows.electOneSpec.pre6 enc Try.prog Try.f8 Rows.electOneRow.domain false) (Rows.electOneSpec.post enc Try.prog Try.f8 false true false false) := by
  refine Eng.law_lifted (C := Try.checked) own started (by kernel_rfl) Try.func8
    (ChangeSpec.witness6 (enc := enc) (C := Try.checked) false ⟨#[], #[.int .i64 0, .int .i64 0, .int .i64 0, .slice none 0 0, .int .i64 0], []⟩ 8 (by kernel_rfl) (by kernel_rfl) (by kernel_rfl) (by kernel_rfl))
    rfl rfl Try.underlying4 ?_ laidOut (by kernel_rfl) Eng.SeatB.s8 ?_
  · intro ds hds
    rw [Try.params8] at hds
    match ds, hds with
    | [d1, d2, d3, d4, d5], _ => rfl
  · intro W base args ds p hval hA
    have h := Eng.argL_of hval hA
    change Eng.ArgL Try.prog W .any base Try.f8.params.toList args.toList at h
    change DataW.TrodAll enc Try.prog W 0 (fun _ => true) true Try.f8.params.toList args.toList ds p at hA
    rw [Try.params8] at h hA
    obtain ⟨a0, m0, e0, k0, h⟩ := Eng.argL_cons h
    obtain ⟨a1, m1, rfl, k1, h⟩ := Eng.argL_cons h
    obtain ⟨a2, m2, rfl, k2, h⟩ := Eng.argL_cons h
    obtain ⟨v3, m3, rfl, k3, h⟩ := Eng.argL_cons h
    obtain ⟨a4, m4, rfl, k4, h⟩ := Eng.argL_cons h
    obtain rfl := Eng.argL_nil h
    rw [e0] at hA
    obtain ⟨_, _, d0, ds0, p0, q0, hargs, rfl, rfl, h0, r0⟩ := trodAll_cons hA
    obtain ⟨rfl, rfl⟩ := List.cons.inj hargs
    obtain ⟨_, _, d1, ds1, p1, q1, hargs, rfl, rfl, h1, r1⟩ := trodAll_cons r0
    obtain ⟨rfl, rfl⟩ := List.cons.inj hargs
    obtain ⟨_, _, d2, ds2, p2, q2, hargs, rfl, rfl, h2, r2⟩ := trodAll_cons r1
    obtain ⟨rfl, rfl⟩ := List.cons.inj hargs
    obtain ⟨_, _, d3, ds3, p3, q3, hargs, rfl, rfl, h3, r3⟩ := trodAll_cons r2
    obtain ⟨rfl, rfl⟩ := List.cons.inj hargs
    obtain ⟨n0, rfl, _⟩ := Eng.int_of Try.underlying3 k0
    obtain ⟨n1, rfl, _⟩ := Eng.int_of Try.underlying3 k1
    obtain ⟨n2, rfl, _⟩ := Eng.int_of Try.underlying3 k2
    obtain ⟨n4, rfl, _⟩ := Eng.int_of Try.underlying3 k4
    rw [e0]
    show ∃ H', Eng.denF Eng.SeatB.Φ11 Eng.none2 Eng.SeatB.c8 [.int .i64 n0, .int .i64 n1, .int .i64 n2, Eng.avv W.heap.size v3, .int .i64 n4] (Eng.heapOf W) = _
    rcases Eng.SeatB.msgs_of (n := 3) Try.underlying22 (by kernel_rfl) (by kernel_rfl) k3 h3 with hv | ⟨b, o, len, cap, f, hv, hb, hl, hM⟩
    · rw [hv]; exact Eng.SeatB.law8n
    · rw [hv]; exact Eng.SeatB.law8 hM hb hl
theorem over : Rows.electOneRow.holds Try.pinned (OpenSpec.ofChange Rows.electOneSpec) :=
  OpenClaim.holds_of_wide 8 Try.f8 rfl rfl rfl rfl rfl rfl rfl ⟨rfl, rfl, rfl, rfl, rfl⟩ rfl rfl rfl rfl rfl (by kernel_rfl) Try.func8 (by kernel_rfl)
    (of_decide_eq_true (by kernel_rfl)) (by unfold Func.isWrapper; first | (rw [if_pos (by decide +kernel)]; kernel_rfl) | (rw [if_neg (by decide +kernel)]; exact ⟨rfl, rfl⟩))
    (fun os started H enc _ => lifted os started H enc)
theorem proved : Rows.ElectOneSaid := over
#print axioms proved
end Go.Proofs.Ytoiceofneelphaa.electOne
namespace Go.Proofs.Ytoiceofneelphaa
/-- The row, under a short name, for the claim. -/
theorem electOne_holds : Rows.ElectOneSaid := electOne.proved
end Go.Proofs.Ytoiceofneelphaa

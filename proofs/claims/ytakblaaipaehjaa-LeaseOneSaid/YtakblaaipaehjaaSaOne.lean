/- LeaseOne answers true, whatever the input. No condition. -/
import Derived.Test.YtakblaaipaehjaaRows
import Derived.Test.YtakblaaipaehjaaSaC2
import Derived.Test.YtakblaaipaehjaaEngTop
namespace Go.Proofs.Ytakblaaipaehjaa.leaseOne
open Go.ChangeShapes Go.WideShapes Go.ChangeAt Go.RowKit
set_option linter.unusedVariables false
theorem own : ownKnob Try.prog.godebug = none := by kernel_rfl
theorem laidOut : laidOutB Try.prog = true := by kernel_rfl
set_option maxRecDepth 100000 in
theorem lifted (os : Os) (started : os.Started) (H : Type) (enc : TypeId × Value → H) :
    ReturnsInHanded {} Try.checked os 8 .any (Rows.leaseOneSpec.pre6 enc Try.prog Try.f8 Rows.leaseOneRow.domain false) (Rows.leaseOneSpec.post enc Try.prog Try.f8 false true false false) := by
  refine Eng.law_lifted (C := Try.checked) own started (by kernel_rfl) Try.func8
    (ChangeSpec.witness6 (enc := enc) (C := Try.checked) false ⟨#[], #[.agg #[.int .i64 0, .int .i64 0, .int .i64 0], .slice none 0 0], []⟩ 8 (by kernel_rfl) (by kernel_rfl) (by kernel_rfl) (by kernel_rfl))
    rfl rfl Try.underlying4 ?_ laidOut (by kernel_rfl) Eng.SeatA.s8 ?_
  · intro ds hds
    rw [Try.params8] at hds
    match ds, hds with
    | [d1, d2], _ => rfl
  · intro W base args ds p hval hA
    have h := Eng.argL_of hval hA
    change Eng.ArgL Try.prog W .any base Try.f8.params.toList args.toList at h
    change DataW.TrodAll enc Try.prog W 0 (fun _ => true) true Try.f8.params.toList args.toList ds p at hA
    rw [Try.params8] at h hA
    obtain ⟨v0, m0, e0, k0, h⟩ := Eng.argL_cons h
    obtain ⟨v1, m1, rfl, k1, h⟩ := Eng.argL_cons h
    obtain rfl := Eng.argL_nil h
    rw [e0] at hA
    obtain ⟨_, _, d0, ds0, p0, q0, hargs, rfl, rfl, h0, r0⟩ := trodAll_cons hA
    obtain ⟨rfl, rfl⟩ := List.cons.inj hargs
    obtain ⟨_, _, d1, ds1, p1, q1, hargs, rfl, rfl, h1, r1⟩ := trodAll_cons r0
    obtain ⟨rfl, rfl⟩ := List.cons.inj hargs
    obtain ⟨l0, rfl, f0⟩ := Eng.arr_of ⟨_, _, Try.underlying37⟩ (ts := [3, 3, 3]) (by kernel_rfl) (by kernel_rfl) k0
    obtain ⟨b0x0, n0x0, rfl, j0x0, f0⟩ := Eng.fit_int f0 Try.underlying3
    obtain ⟨b0x1, n0x1, rfl, j0x1, f0⟩ := Eng.fit_int f0 Try.underlying3
    obtain ⟨b0x2, n0x2, rfl, j0x2, f0⟩ := Eng.fit_int f0 Try.underlying3
    obtain rfl := Eng.fit_nil f0
    rw [e0]
    show ∃ H', Eng.denF Eng.SeatA.Φ8 Eng.none2 Eng.SeatA.c8 [.agg [.int .i64 b0x0, .int .i64 b0x1, .int .i64 b0x2], Eng.avv W.heap.size v1] (Eng.heapOf W) = _
    rcases Eng.SeatA.acts_of (n := 4) Try.underlying38 (by kernel_rfl) (by kernel_rfl) k1 h1 with hv | ⟨b, o, len, cap, f, hv, hb, hM⟩
    · rw [hv]; exact Eng.SeatA.law8n
    · rw [hv]; exact Eng.SeatA.law8 hM hb
theorem over : Rows.leaseOneRow.holds Try.pinned (OpenSpec.ofChange Rows.leaseOneSpec) :=
  OpenClaim.holds_of_wide 8 Try.f8 rfl rfl rfl rfl rfl rfl rfl ⟨rfl, rfl, rfl, rfl, rfl⟩ rfl rfl rfl rfl rfl (by kernel_rfl) Try.func8 (by kernel_rfl)
    (of_decide_eq_true (by kernel_rfl)) (by unfold Func.isWrapper; first | (rw [if_pos (by decide +kernel)]; kernel_rfl) | (rw [if_neg (by decide +kernel)]; exact ⟨rfl, rfl⟩))
    (fun os started H enc _ => lifted os started H enc)
theorem proved : Rows.LeaseOneSaid := over
#print axioms proved
end Go.Proofs.Ytakblaaipaehjaa.leaseOne
namespace Go.Proofs.Ytakblaaipaehjaa
/-- The row, under a short name, for the claim. -/
theorem leaseOne_holds : Rows.LeaseOneSaid := leaseOne.proved
end Go.Proofs.Ytakblaaipaehjaa

/- NetOrder answers true, whatever the input. No condition. -/
import Derived.Test.YtgmaknppneonfaaRows
import Derived.Test.YtgmaknppneonfaaScM
import Derived.Test.YtgmaknppneonfaaEngTop
namespace Go.Proofs.Ytgmaknppneonfaa.netOrder
open Go.ChangeShapes Go.WideShapes Go.ChangeAt Go.RowKit
set_option linter.unusedVariables false
theorem own : ownKnob Try.prog.godebug = none := by kernel_rfl
theorem laidOut : laidOutB Try.prog = true := by kernel_rfl
set_option maxRecDepth 100000 in
theorem lifted (os : Os) (started : os.Started) (H : Type) (enc : TypeId × Value → H) :
    ReturnsInHanded {} Try.checked os 3 .any (Rows.netOrderSpec.pre6 enc Try.prog Try.f3 Rows.netOrderRow.domain false) (Rows.netOrderSpec.post enc Try.prog Try.f3 false true false false) := by
  refine Eng.law_lifted (C := Try.checked) own started (by kernel_rfl) Try.func3
    (ChangeSpec.witness6 (enc := enc) (C := Try.checked) false ⟨#[], #[.slice none 0 0, .agg #[.bool false, .bool false, .bool false, .bool false, .bool false, .bool false]], []⟩ 8 (by kernel_rfl) (by kernel_rfl) (by kernel_rfl) (by kernel_rfl))
    rfl rfl Try.underlying4 ?_ laidOut (by kernel_rfl) Eng.SeatC.s3 ?_
  · intro ds hds
    rw [Try.params3] at hds
    match ds, hds with
    | [d1, d2], _ => rfl
  · intro W base args ds p hval hA
    have h := Eng.argL_of hval hA
    change Eng.ArgL Try.prog W .any base Try.f3.params.toList args.toList at h
    change DataW.TrodAll enc Try.prog W 0 (fun _ => true) true Try.f3.params.toList args.toList ds p at hA
    rw [Try.params3] at h hA
    obtain ⟨v0, m0, e0, k0, h⟩ := Eng.argL_cons h
    obtain ⟨v1, m1, rfl, k1, h⟩ := Eng.argL_cons h
    obtain rfl := Eng.argL_nil h
    rw [e0] at hA
    obtain ⟨_, _, d0, ds0, p0, q0, hargs, rfl, rfl, h0, r0⟩ := trodAll_cons hA
    obtain ⟨rfl, rfl⟩ := List.cons.inj hargs
    obtain ⟨_, _, d1, ds1, p1, q1, hargs, rfl, rfl, h1, r1⟩ := trodAll_cons r0
    obtain ⟨rfl, rfl⟩ := List.cons.inj hargs
    obtain ⟨a, b', c, d', e, f', hcut⟩ := Eng.SeatC.cut_of (n := 3) ⟨_, _, Try.underlying23⟩ (ts := [4, 4, 4, 4, 4, 4]) (by kernel_rfl) (by kernel_rfl) (by kernel_rfl) k1 h1
    rw [e0]
    show ∃ H', Eng.denF Eng.SeatC.Ω5 Eng.none2 Eng.SeatC.c3 [Eng.avv W.heap.size v0, Eng.avv W.heap.size v1] (Eng.heapOf W) = _
    rw [hcut]
    rcases Eng.SeatC.actsI_of (n := 4) Try.underlying22 (by kernel_rfl) (by kernel_rfl) k0 h0 with hv | ⟨b, o, len, cap, f, hv, hb, hM⟩
    · rw [hv]; exact Eng.SeatC.law3n
    · rw [hv]; exact Eng.SeatC.law3 hM hb
theorem over : Rows.netOrderRow.holds Try.pinned (OpenSpec.ofChange Rows.netOrderSpec) :=
  OpenClaim.holds_of_wide 3 Try.f3 rfl rfl rfl rfl rfl rfl rfl ⟨rfl, rfl, rfl, rfl, rfl⟩ rfl rfl rfl rfl rfl (by kernel_rfl) Try.func3 (by kernel_rfl)
    (of_decide_eq_true (by kernel_rfl)) (by unfold Func.isWrapper; first | (rw [if_pos (by decide +kernel)]; kernel_rfl) | (rw [if_neg (by decide +kernel)]; exact ⟨rfl, rfl⟩))
    (fun os started H enc _ => lifted os started H enc)
theorem proved : Rows.NetOrderSaid := over
#print axioms proved
end Go.Proofs.Ytgmaknppneonfaa.netOrder
namespace Go.Proofs.Ytgmaknppneonfaa
/-- The row, under a short name, for the claim. -/
theorem netOrder_holds : Rows.NetOrderSaid := netOrder.proved
end Go.Proofs.Ytgmaknppneonfaa

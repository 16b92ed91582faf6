/- NetKeeps answers true, whatever the input. No condition. -/
import Derived.Test.YtgmaknppneonfaaRows
import Derived.Test.YtgmaknppneonfaaScU
import Derived.Test.YtgmaknppneonfaaEngTop
namespace Go.Proofs.Ytgmaknppneonfaa.netKeeps
open Go.ChangeShapes Go.WideShapes Go.ChangeAt Go.RowKit
set_option linter.unusedVariables false
theorem own : ownKnob Try.prog.godebug = none := by kernel_rfl
theorem laidOut : laidOutB Try.prog = true := by kernel_rfl
set_option maxRecDepth 100000 in
theorem lifted (os : Os) (started : os.Started) (H : Type) (enc : TypeId × Value → H) :
    ReturnsInHanded {} Try.checked os 6 .any (Rows.netKeepsSpec.pre6 enc Try.prog Try.f6 Rows.netKeepsRow.domain false) (Rows.netKeepsSpec.post enc Try.prog Try.f6 false true false false) := by
  refine Eng.law_lifted (C := Try.checked) own started (by kernel_rfl) Try.func6
    (ChangeSpec.witness6 (enc := enc) (C := Try.checked) false ⟨#[], #[.slice none 0 0], []⟩ 8 (by kernel_rfl) (by kernel_rfl) (by kernel_rfl) (by kernel_rfl))
    rfl rfl Try.underlying4 ?_ laidOut (by kernel_rfl) Eng.SeatC.s6 ?_
  · intro ds hds
    rw [Try.params6] at hds
    match ds, hds with
    | [d1], _ => rfl
  · intro W base args ds p hval hA
    have h := Eng.argL_of hval hA
    change Eng.ArgL Try.prog W .any base Try.f6.params.toList args.toList at h
    change DataW.TrodAll enc Try.prog W 0 (fun _ => true) true Try.f6.params.toList args.toList ds p at hA
    rw [Try.params6] at h hA
    obtain ⟨v0, m0, e0, k0, h⟩ := Eng.argL_cons h
    obtain rfl := Eng.argL_nil h
    rw [e0] at hA
    obtain ⟨_, _, d0, ds0, p0, q0, hargs, rfl, rfl, h0, r0⟩ := trodAll_cons hA
    obtain ⟨rfl, rfl⟩ := List.cons.inj hargs
    rw [e0]
    show ∃ H', Eng.denF Eng.SeatC.Ω8 Eng.none2 Eng.SeatC.c6 [Eng.avv W.heap.size v0] (Eng.heapOf W) = _
    rcases Eng.SeatC.actsK_of (n := 4) Try.underlying22 (by kernel_rfl) (by kernel_rfl) k0 h0 with hv | ⟨b, o, len, cap, g, hv, hb, hM⟩
    · rw [hv]; exact Eng.SeatC.law6n
    · rw [hv]; exact Eng.SeatC.law6 hM hb
theorem over : Rows.netKeepsRow.holds Try.pinned (OpenSpec.ofChange Rows.netKeepsSpec) :=
  OpenClaim.holds_of_wide 6 Try.f6 rfl rfl rfl rfl rfl rfl rfl ⟨rfl, rfl, rfl, rfl, rfl⟩ rfl rfl rfl rfl rfl (by kernel_rfl) Try.func6 (by kernel_rfl)
    (of_decide_eq_true (by kernel_rfl)) (by unfold Func.isWrapper; first | (rw [if_pos (by decide +kernel)]; kernel_rfl) | (rw [if_neg (by decide +kernel)]; exact ⟨rfl, rfl⟩))
    (fun os started H enc _ => lifted os started H enc)
theorem proved : Rows.NetKeepsSaid := over
#print axioms proved
end Go.Proofs.Ytgmaknppneonfaa.netKeeps
namespace Go.Proofs.Ytgmaknppneonfaa
/-- The row, under a short name, for the claim. -/
theorem netKeeps_holds : Rows.NetKeepsSaid := netKeeps.proved
end Go.Proofs.Ytgmaknppneonfaa

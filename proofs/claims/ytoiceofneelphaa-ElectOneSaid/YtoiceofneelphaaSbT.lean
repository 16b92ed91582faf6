/- Layer 19: slices of messages that are handed in. -/
import Derived.Test.YtoiceofneelphaaSbR
import Derived.Test.YtoiceofneelphaaEngLeafK
set_option linter.unusedSimpArgs false
set_option linter.unusedVariables false
namespace Go.Eng.SeatB
open Go.ChangeShapes Go.WideShapes Go.ChangeAt Go.RowKit
def msgLK : List LK := [.int .i64, .int .i64, .int .i64, .int .i64, .int .i64, .int .i64, .bool, .int .i64, .int .i64, .int .i64, .int .u64, .sl]
theorem fit_msg : ∀ {vs : List Value}, fitK msgLK vs → ∃ m : Msg, vs.map av0 = m.cs
  | [a, b, c, d, e, f, g, h, i, j, k, l], h0 => by
    obtain ⟨⟨x1, rfl, _⟩, ⟨x2, rfl, _⟩, ⟨x3, rfl, _⟩, ⟨x4, rfl, _⟩, ⟨x5, rfl, _⟩, ⟨x6, rfl, _⟩, ⟨x7, rfl⟩, ⟨x8, rfl, _⟩, ⟨x9, rfl, _⟩, ⟨x10, rfl, _⟩, ⟨x11, rfl, _⟩, ⟨y1, y2, y3, rfl, _⟩, _⟩ := h0
    exact ⟨⟨x1, x2, x3, x4, x5, x6, x7, x8, x9, x10, x11, y1, y2, y3⟩, rfl⟩
  | [], h => h.elim
  | [_], h => h.2.elim
  | [_, _], h => h.2.2.elim
  | [_, _, _], h => h.2.2.2.elim
  | [_, _, _, _], h => h.2.2.2.2.elim
  | [_, _, _, _, _], h => h.2.2.2.2.2.elim
  | [_, _, _, _, _, _], h => h.2.2.2.2.2.2.elim
  | [_, _, _, _, _, _, _], h => h.2.2.2.2.2.2.2.elim
  | [_, _, _, _, _, _, _, _], h => h.2.2.2.2.2.2.2.2.elim
  | [_, _, _, _, _, _, _, _, _], h => h.2.2.2.2.2.2.2.2.2.elim
  | [_, _, _, _, _, _, _, _, _, _], h => h.2.2.2.2.2.2.2.2.2.2.elim
  | [_, _, _, _, _, _, _, _, _, _, _], h => h.2.2.2.2.2.2.2.2.2.2.2.elim
  | _ :: _ :: _ :: _ :: _ :: _ :: _ :: _ :: _ :: _ :: _ :: _ :: _ :: _, h => h.2.2.2.2.2.2.2.2.2.2.2.2.elim
theorem msgs_of {H : Type} {enc : TypeId × Value → H} {P : Program} {W : World} {r : Reach} {base : Nat} {t e : TypeId} {v : Value} {d : DataW H} {p : List MemPlace} {n : Nat} (ht : P.underlying t = some (.slice e)) (he : leaves P n e = some msgLK) (hk : P.cellsOf e = 12) (hv : Value.okWide P W r base t v)
    (hA : DataW.Trod enc P W 0 (fun _ => true) true t v d p) : avv W.heap.size v = .nils ∨ ∃ (b o len cap : Nat) (f : Nat → Msg), avv W.heap.size v = .sl b o len (some cap) ∧ b < (heapOf W).n ∧ len ≤ 9223372036854775807 ∧ Msgs (heapOf W) b o len f := by
  rcases slice_cells ht he hk rfl hv hA with h | ⟨b, o, len, cap, L, te, g, h, hb, hl, hg, hle, hc⟩
  · exact .inl h
  · refine .inr ⟨b, o, len, cap, fun i => if hi : i < len then Classical.choose (fit_msg (hc i hi).2) else ⟨0, 0, 0, 0, 0, 0, false, 0, 0, 0, 0, none, 0, 0⟩, h, hb, hl, L, te, 1, .ro, hg, hle, fun i hi => ?_⟩
    simp only [dif_pos hi]
    exact (hc i hi).1.trans (Classical.choose_spec (fit_msg (hc i hi).2))
end Go.Eng.SeatB

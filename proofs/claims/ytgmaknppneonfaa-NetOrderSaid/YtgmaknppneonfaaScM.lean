/- Layer 14: the calls and the links that are handed in. -/
import Derived.Test.YtgmaknppneonfaaScL
import Derived.Test.YtgmaknppneonfaaEngLeafK
set_option linter.unusedSimpArgs false
set_option linter.unusedVariables false
namespace Go.Eng.SeatC
open Go.ChangeShapes Go.WideShapes Go.ChangeAt Go.RowKit
def actLK : List LK := [.int .i64, .int .i64, .int .i64, .bool, .sl]
theorem fit_act1 : ∀ {vs : List Value}, fitK actLK vs → ∃ k : Int, (vs.map av0)[1]? = some (.int .i64 k)
  | _ :: b :: _, h => by obtain ⟨_, ⟨k, rfl, _⟩, _⟩ := h; exact ⟨k, rfl⟩
  | [], h => h.elim
  | [_], h => h.2.elim
theorem actsI_of {H : Type} {enc : TypeId × Value → H} {P : Program} {W : World} {r : Reach} {base : Nat} {t e : TypeId} {v : Value} {d : DataW H} {p : List MemPlace} {n : Nat} (ht : P.underlying t = some (.slice e)) (he : leaves P n e = some actLK) (hk : P.cellsOf e = 5) (hv : Value.okWide P W r base t v)
    (hA : DataW.Trod enc P W 0 (fun _ => true) true t v d p) : avv W.heap.size v = .nils ∨ ∃ (b o len cap : Nat) (f : Nat → Int), avv W.heap.size v = .sl b o len (some cap) ∧ b < (heapOf W).n ∧ ActsI (heapOf W) b o len f := by
  rcases slice_cells ht he hk rfl hv hA with h | ⟨b, o, len, cap, L, te, g, h, hb, hl, hg, hle, hc⟩
  · exact .inl h
  · refine .inr ⟨b, o, len, cap, fun i => if hi : i < len then Classical.choose (fit_act1 (hc i hi).2) else 0, h, hb, .inr ⟨L, te, 1, hg, fun i hi => ?_⟩⟩
    simp only [dif_pos hi]
    have h1 := Classical.choose_spec (fit_act1 (hc i hi).2)
    have h2 := congrArg (fun l => l[1]?) (hc i hi).1
    simp only [List.getElem?_take, List.getElem?_drop] at h2
    rw [if_pos (by omega)] at h2
    exact h2.trans h1
def cutLK : List LK := [.bool, .bool, .bool, .bool, .bool, .bool]
theorem fit_cut : ∀ {vs : List Value}, fitK cutLK vs → ∃ a b c d e f, vs = [.bool a, .bool b, .bool c, .bool d, .bool e, .bool f]
  | [_, _, _, _, _, _], h => by
    obtain ⟨⟨a, rfl⟩, ⟨b, rfl⟩, ⟨c, rfl⟩, ⟨d, rfl⟩, ⟨e, rfl⟩, ⟨f, rfl⟩, _⟩ := h
    exact ⟨_, _, _, _, _, _, rfl⟩
  | [], h => h.elim
  | [_], h => h.2.elim
  | [_, _], h => h.2.2.elim
  | [_, _, _], h => h.2.2.2.elim
  | [_, _, _, _], h => h.2.2.2.2.elim
  | [_, _, _, _, _], h => h.2.2.2.2.2.elim
  | _ :: _ :: _ :: _ :: _ :: _ :: _ :: _, h => h.2.2.2.2.2.2.elim
theorem cut_of {H : Type} {enc : TypeId × Value → H} {P : Program} {W : World} {r : Reach} {base : Nat} {t : TypeId} {v : Value} {d : DataW H} {p : List MemPlace} {n : Nat} {ts : List TypeId} (hs : ∃ n e, P.underlying t = some (.array n e)) (hts : P.cellTypes P.depth t = some ts) (hn : P.cellsOf t = ts.length) (he : leaves P n t = some cutLK) (hv : Value.okWide P W r base t v)
    (hA : DataW.Trod enc P W 0 (fun _ => true) true t v d p) : ∃ a b c d e f, avv W.heap.size v = .agg [.bool a, .bool b, .bool c, .bool d, .bool e, .bool f] := by
  obtain ⟨l, rfl, _⟩ := arr_of hs hts hn hv
  obtain ⟨m, hm⟩ := hA
  obtain ⟨a, b, c, d, e, f, h⟩ := fit_cut (trod_fit n _ _ he _ _ _ hm)
  refine ⟨a, b, c, d, e, f, ?_⟩
  simp only [Value.cells] at h
  simp only [avv]
  rw [h]
  rfl
end Go.Eng.SeatC

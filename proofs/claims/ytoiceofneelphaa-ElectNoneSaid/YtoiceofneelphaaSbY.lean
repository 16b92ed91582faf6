/- Layer 19: a message that is handed in. -/
import Derived.Test.YtoiceofneelphaaSbX
import Derived.Test.YtoiceofneelphaaSbT
set_option linter.unusedSimpArgs false
set_option linter.unusedVariables false
namespace Go.Eng.SeatB
open Go.ChangeShapes Go.WideShapes Go.ChangeAt Go.RowKit
theorem av_slice (k : Nat) (a : Option Addr) (n c : Nat) : (av k (.slice a n c)).isCell = true ∧ lenK (some (av k (.slice a n c))) = some (.int .i64 n) := by
  rcases a with _ | ⟨b, o, p⟩
  · cases n with
    | zero =>
      cases c with
      | zero => exact ⟨rfl, rfl⟩
      | succ c => exact ⟨rfl, rfl⟩
    | succ n => exact ⟨rfl, rfl⟩
  · cases p with
    | none =>
      simp only [av]
      split
      · exact ⟨rfl, rfl⟩
      · exact ⟨rfl, rfl⟩
    | some _ => exact ⟨rfl, rfl⟩
theorem fit_msgv : ∀ {vs : List Value}, fitK msgLK vs → ∃ (k fr t sq st bl : Int) (ok : Bool) (rt rn rs bits : Int) (a : Option Addr) (n c : Nat), vs = [.int .i64 k, .int .i64 fr, .int .i64 t, .int .i64 sq, .int .i64 st, .int .i64 bl, .bool ok, .int .i64 rt, .int .i64 rn, .int .i64 rs, .int .u64 bits, .slice a n c]
  | [a, b, c, d, e, f, g, h, i, j, k, l], h0 => by
    obtain ⟨⟨x1, rfl, _⟩, ⟨x2, rfl, _⟩, ⟨x3, rfl, _⟩, ⟨x4, rfl, _⟩, ⟨x5, rfl, _⟩, ⟨x6, rfl, _⟩, ⟨x7, rfl⟩, ⟨x8, rfl, _⟩, ⟨x9, rfl, _⟩, ⟨x10, rfl, _⟩, ⟨x11, rfl, _⟩, ⟨y1, y2, y3, rfl, _⟩, _⟩ := h0
    exact ⟨_, _, _, _, _, _, _, _, _, _, _, _, _, _, rfl⟩
  | [], h => h.elim
  | [_], h => h.2.elim
  | [_, _], h => h.2.2.elim
  | [_, _, _], h => h.2.2.2.elim
  | [_, _, _, _], h => h.2.2.2.2.elim
  | [_, _, _, _, _], h => h.2.2.2.2.2.elim
  | [_, _, _, _, _, _], h => h.2.2.2.2.2.2.elim
  | [_, _, _, _, _, _, _], h => h.2.2.2.2.2.2.2.elim
  | [_, _, _, _, _, _, _, _], h => h.2.2.2.2.2.2.2.2.elim
  | [_, _, _, _, _, _, _, _, _], h => h.2.2.2.2.2.2.2.2.2.elim
  | [_, _, _, _, _, _, _, _, _, _], h => h.2.2.2.2.2.2.2.2.2.2.elim
  | [_, _, _, _, _, _, _, _, _, _, _], h => h.2.2.2.2.2.2.2.2.2.2.2.elim
  | _ :: _ :: _ :: _ :: _ :: _ :: _ :: _ :: _ :: _ :: _ :: _ :: _ :: _, h => h.2.2.2.2.2.2.2.2.2.2.2.2.elim
theorem msgv_of {H : Type} {enc : TypeId × Value → H} {P : Program} {W : World} {r : Reach} {base : Nat} {t : TypeId} {v : Value} {d : DataW H} {p : List MemPlace} {n : Nat} {ts : List TypeId} (hs : ∃ fs, P.underlying t = some (.struct fs)) (hts : P.cellTypes P.depth t = some ts) (hn : P.cellsOf t = ts.length) (he : leaves P n t = some msgLK) (hv : Value.okWide P W r base t v)
    (hA : DataW.Trod enc P W 0 (fun _ => true) true t v d p) : ∃ (k fr t sq st bl : Int) (ok : Bool) (rt rn rs bits : Int) (d : AVal) (n : Int), avv W.heap.size v = .agg (mcs k fr t sq st bl ok rt rn rs bits d) ∧ d.isCell = true ∧ lenK (some d) = some (.int .i64 n) := by
  obtain ⟨l, rfl, _⟩ := agg_of hs hts hn hv
  obtain ⟨m, hm⟩ := hA
  obtain ⟨k, fr, t', sq, st, bl, ok, rt, rn, rs, bits, a, n', c, e⟩ := fit_msgv (trod_fit n _ _ he _ _ _ hm)
  simp only [Value.cells] at e
  subst e
  obtain ⟨h1, h2⟩ := av_slice W.heap.size a n' c
  exact ⟨k, fr, t', sq, st, bl, ok, rt, rn, rs, bits, _, _, rfl, h1, h2⟩
end Go.Eng.SeatB

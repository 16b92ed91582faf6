/- Layer 18: an act that is handed in. -/
import Derived.Test.YtoiceofneelphaaSbZ
import Derived.Test.YtoiceofneelphaaSbT
set_option linter.unusedSimpArgs false
set_option linter.unusedVariables false
namespace Go.Eng.SeatB
open Go.ChangeShapes Go.WideShapes Go.ChangeAt Go.RowKit
def actLK : List LK := .int .i64 :: .int .i64 :: .int .i64 :: (msgLK ++ [.int .i64, .int .i64, .int .i64])
theorem fit_split : ∀ {a b : List LK} {vs : List Value}, fitK (a ++ b) vs → ∃ u v, vs = u ++ v ∧ fitK a u ∧ fitK b v
  | [], b, vs, h => ⟨[], vs, rfl, trivial, h⟩
  | k :: a, b, [], h => h.elim
  | k :: a, b, x :: vs, h => by
    obtain ⟨u, v, e, h1, h2⟩ := fit_split (a := a) (b := b) h.2
    exact ⟨x :: u, v, by rw [e]; rfl, ⟨h.1, h1⟩, h2⟩
theorem fit_three : ∀ {vs : List Value}, fitK [.int .i64, .int .i64, .int .i64] vs → ∃ x y z, vs = [.int .i64 x, .int .i64 y, .int .i64 z]
  | [a, b, c], h => by obtain ⟨⟨x, rfl, _⟩, ⟨y, rfl, _⟩, ⟨z, rfl, _⟩, _⟩ := h; exact ⟨_, _, _, rfl⟩
  | [], h => h.elim
  | [_], h => h.2.elim
  | [_, _], h => h.2.2.elim
  | _ :: _ :: _ :: _ :: _, h => h.2.2.2.elim
theorem fit_act {vs : List Value} (h : fitK actLK vs) : ∃ (kd nw tm k fr t sq st bl : Int) (ok : Bool) (rt rn rs bits : Int) (a : Option Addr) (n c : Nat) (r1 r2 r3 : Int), vs.map av0 = vcs kd nw tm k fr t sq st bl ok rt rn rs bits a n c r1 r2 r3 := by
  match vs, h with
  | x :: y :: z :: vs, h =>
    obtain ⟨⟨x, rfl, _⟩, ⟨y, rfl, _⟩, ⟨z, rfl, _⟩, h⟩ := h
    obtain ⟨u, v, rfl, h1, h2⟩ := fit_split h
    obtain ⟨m, hm⟩ := fit_msg h1
    obtain ⟨p, q, r, rfl⟩ := fit_three h2
    exact ⟨x, y, z, m.kind, m.fr, m.term, m.seq, m.stamp, m.block, m.ok, m.rt, m.rn, m.rs, m.bits, m.da, m.dn, m.dc, p, q, r, by simp only [List.map_cons, List.map_append, hm]; rfl⟩
  | [], h => exact h.elim
  | [_], h => exact h.2.elim
  | [_, _], h => exact h.2.2.elim
theorem actv_of {H : Type} {enc : TypeId × Value → H} {P : Program} {W : World} {r : Reach} {base : Nat} {t : TypeId} {v : Value} {d : DataW H} {p : List MemPlace} {n : Nat} {ts : List TypeId} (hs : ∃ fs, P.underlying t = some (.struct fs)) (hts : P.cellTypes P.depth t = some ts) (hn : P.cellsOf t = ts.length) (he : leaves P n t = some actLK) (hv : Value.okWide P W r base t v)
    (hA : DataW.Trod enc P W 0 (fun _ => true) true t v d p) : ∃ (kd nw tm k fr t sq st bl : Int) (ok : Bool) (rt rn rs bits : Int) (a : Option Addr) (n c : Nat) (r1 r2 r3 : Int), avr v = .agg (vcs kd nw tm k fr t sq st bl ok rt rn rs bits a n c r1 r2 r3) := by
  obtain ⟨l, rfl, _⟩ := agg_of hs hts hn hv
  obtain ⟨m, hm⟩ := hA
  obtain ⟨kd, nw, tm, k, fr, t', sq, st, bl, ok, rt, rn, rs, bits, a, n', c, r1, r2, r3, e⟩ := fit_act (trod_fit n _ _ he _ _ _ hm)
  refine ⟨kd, nw, tm, k, fr, t', sq, st, bl, ok, rt, rn, rs, bits, a, n', c, r1, r2, r3, ?_⟩
  simp only [Value.cells] at e
  simp only [avr]
  rw [e]
end Go.Eng.SeatB

/- Layer 16: LeaseOne, a round. -/
import Derived.Test.YtakblaaipaehjaaSaV
set_option linter.unusedSimpArgs false
set_option linter.unusedVariables false
set_option maxHeartbeats 40000000
namespace Go.Eng.SeatA
open Go.Proofs
structure Act7 where
  kd : Int
  nd : Int
  to : Int
  ix : Int
  b0 : Int
  b1 : Int
  b2 : Int
def Act7.cs (x : Act7) : List AVal := [.int .i64 x.kd, .int .i64 x.nd, .int .i64 x.to, .int .i64 x.ix, .int .i64 x.b0, .int .i64 x.b1, .int .i64 x.b2]
def Acts (H : AHeap) (b o n : Nat) (f : Nat → Act7) : Prop := ∃ L e es md, H.get b = .cells L e es md ∧ o + n * 7 ≤ L.length ∧ ∀ i, i < n → (L.drop (o + i * 7)).take 7 = (f i).cs
theorem Acts.mono {H H' : AHeap} {b o n : Nat} {f : Nat → Act7} (h : Acts H b o n f) (e : H'.get b = H.get b) : Acts H' b o n f := by
  obtain ⟨L, t, es, md, h1, h2⟩ := h
  exact ⟨L, t, es, md, by rw [e]; exact h1, h2⟩
def AllOK (H : AHeap) (bl A P : Nat) (all : AVal) (es : List Ent) : Prop := (es = [] ∧ all = .nils) ∨ ∃ q, all = .sl q 0 es.length none ∧ q < H.n ∧ q ≠ bl ∧ q ≠ A ∧ q ≠ P ∧ H.get q = .cells (flat es) 44 4 .elastic
/-- What holds ahead of each round. -/
structure JL (H : AHeap) (bl o n : Nat) (f : Nat → Act7) (A P : Nat) (a0 a1 a2 T0 F0 T1 F1 T2 F2 : Int) (all : AVal) (es : List Ent) (i : Nat) : Prop where
  ms : Acts H bl o n f
  lb : bl < H.n
  lA : A < H.n
  lP : P < H.n
  bA : bl ≠ A
  bP : bl ≠ P
  AP : A ≠ P
  hA : H.get A = .cells [.int .i64 a0, .int .i64 a1, .int .i64 a2] 37 3 .fixed
  hP : H.get P = .cells [.int .i64 T0, .int .i64 F0, .int .i64 T1, .int .i64 F1, .int .i64 T2, .int .i64 F2] 39 6 .fixed
  hall : AllOK H bl A P all es
  base : Base a0 a1 a2 T0 F0 T1 F1 T2 F2 i
  ents : ∀ e ∈ es, EntOK a0 a1 a2 T0 F0 T1 F1 T2 F2 e
  len : es.length ≤ i
theorem AllOK.keep {H H' : AHeap} {bl A P : Nat} {all : AVal} {es : List Ent} (h : AllOK H bl A P all es) (hn : H.n ≤ H'.n) (e : ∀ z, z < H.n → z ≠ bl → z ≠ A → z ≠ P → H'.get z = H.get z) : AllOK H' bl A P all es := by
  rcases h with h | ⟨q, h1, h2, h3, h4, h5, h6⟩
  · exact .inl h
  · exact .inr ⟨q, h1, by omega, h3, h4, h5, (e q h2 h3 h4 h5).trans h6⟩
theorem JL.keep {H H' : AHeap} {bl o n : Nat} {f : Nat → Act7} {A P : Nat} {a0 a1 a2 T0 F0 T1 F1 T2 F2 : Int} {all : AVal} {es : List Ent} {i : Nat} (J : JL H bl o n f A P a0 a1 a2 T0 F0 T1 F1 T2 F2 all es i) (hn : H.n ≤ H'.n) (e : ∀ z, z < H.n → H'.get z = H.get z) : JL H' bl o n f A P a0 a1 a2 T0 F0 T1 F1 T2 F2 all es i := by
  obtain ⟨ms, lb, lA, lP, bA, bP, AP, hA, hP, hall, base, ents, len⟩ := J
  exact ⟨ms.mono (e _ lb), by omega, by omega, by omega, bA, bP, AP, (e _ lA).trans hA, (e _ lP).trans hP, hall.keep hn fun z hz _ _ _ => e z hz, base, ents, len⟩
theorem JL.next {H : AHeap} {bl o n : Nat} {f : Nat → Act7} {A P : Nat} {a0 a1 a2 T0 F0 T1 F1 T2 F2 : Int} {all : AVal} {es : List Ent} {i : Nat} (J : JL H bl o n f A P a0 a1 a2 T0 F0 T1 F1 T2 F2 all es i) (hi : i < 120) : JL H bl o n f A P a0 a1 a2 T0 F0 T1 F1 T2 F2 all es (i + 1) := by
  obtain ⟨ms, lb, lA, lP, bA, bP, AP, hA, hP, hall, base, ents, len⟩ := J
  exact ⟨ms, lb, lA, lP, bA, bP, AP, hA, hP, hall, base.next hi, ents, by omega⟩
/-- The heap with a variable of its own. -/
def hv2 (H : AHeap) : AHeap := (H.push (.cells [.bool false, .bool false] 45 2 .fixed)).set H.n (.cells [.bool false, .bool false] 45 2 .fixed)
theorem hv2_n (H : AHeap) : (hv2 H).n = H.n + 1 := by simp [hv2]
theorem hv2_lt {H : AHeap} {z : Nat} (h : z < H.n) : (hv2 H).get z = H.get z := by
  unfold hv2; rw [AHeap.get_set, if_neg (by omega), AHeap.get_push, if_neg (by omega)]
theorem hv2_self (H : AHeap) : (hv2 H).get H.n = .cells [.bool false, .bool false] 45 2 .fixed := by
  unfold hv2; rw [AHeap.get_set, if_pos rfl]
/-- The end of a round: no two have a valid lease. -/
theorem JL.have {H : AHeap} {bl o n : Nat} {f : Nat → Act7} {A P : Nat} {a0 a1 a2 T0 F0 T1 F1 T2 F2 : Int} {all : AVal} {es : List Ent} {i : Nat} (J : JL H bl o n f A P a0 a1 a2 T0 F0 T1 F1 T2 F2 all es i) (l : AVal) (ii : Int) :
    ∃ H' h0 h1, JL H' bl o n f A P a0 a1 a2 T0 F0 T1 F1 T2 F2 all es i ∧ H'.n = H.n + 1 ∧ (∀ z, z < H.n → H'.get z = H.get z) ∧ H'.get H.n = .cells [.bool h0, .bool h1] 45 2 .fixed ∧ (h0 && h1) = false ∧
      iter (aden Φ8 b8_0) fuel ⟨[(1, l), (2, .ptr A 0), (5, .bool true), (7, .ptr P 0), (8, all), (9, .int .i64 ii), (17, .ptr H.n 0), (18, .int .i64 0)], hv2 H, []⟩ = some (.exit 9, ⟨[(1, l), (2, .ptr A 0), (5, .bool true), (7, .ptr P 0), (8, all), (9, .int .i64 ii), (17, .ptr H.n 0), (18, .int .i64 es.length), (195, .bool false)], H', []⟩) := by
  have J1 : JL (hv2 H) bl o n f A P a0 a1 a2 T0 F0 T1 F1 T2 F2 all es i := J.keep (by rw [hv2_n]; omega) fun z hz => hv2_lt hz
  have lA := J.lA
  have hlen : es.length ≤ 120 := Nat.le_trans J.len J.base.hi
  rcases J.hall with ⟨rfl, rfl⟩ | ⟨q, rfl, lq, q1, q2, q3, hQ⟩
  · refine ⟨hv2 H, false, false, J1, hv2_n H, fun z hz => hv2_lt hz, hv2_self H, rfl, ?_⟩
    have h : iter (aden Φ8 b8_0) (0 + 1) ⟨[(1, l), (2, .ptr A 0), (5, .bool true), (7, .ptr P 0), (8, .nils), (9, .int .i64 ii), (17, .ptr H.n 0), (18, .int .i64 0)], hv2 H, []⟩ = some (.exit 9, ⟨[(1, l), (2, .ptr A 0), (5, .bool true), (7, .ptr P 0), (8, .nils), (9, .int .i64 ii), (17, .ptr H.n 0), (18, .int .i64 0), (195, .bool false)], hv2 H, []⟩) := by
      rw [iter_succ]
      unfold b8_0
      simp (maxSteps := 10000000) +contextual [go_sem]
    exact iter_mono h (show 0 + 1 ≤ fuel by unfold fuel; omega)
  · obtain ⟨H', h0, h1, g1, g2, g3, p0, p1, g4⟩ := loopH (l := l) (A := A) (P := P) (q := q) (i := ii) (a0 := a0) (a1 := a1) (a2 := a2) (es := es) (show H.n ≠ A by omega) (show H.n ≠ q by omega) rfl hlen (fun e he => (J.ents e he).n) es.length 0 (by omega) (J1.hA) ((hv2_lt lq).trans hQ) (hv2_self H) (by rw [hv2_n]; omega) (by rw [hv2_n]; omega) (by rw [hv2_n]; omega) (by simp) (by simp)
    have g4 := iter_mono g4 (show es.length + 1 ≤ fuel by unfold fuel; omega)
    have fr : ∀ z, z < H.n → H'.get z = H.get z := fun z hz => (g2 z (by omega)).trans (hv2_lt hz)
    have hn1 : H'.n = H.n + 1 := g1.trans (hv2_n H)
    refine ⟨H', h0, h1, J.keep (by omega) fr, hn1, fr, g3, ?_, g4⟩
    cases hh0 : h0 with
    | false => rfl
    | true =>
      cases hh1 : h1 with
      | false => rfl
      | true =>
        obtain ⟨e, he, e0, ev⟩ := p0 hh0
        obtain ⟨d, hd, d1, dv⟩ := p1 hh1
        simp only [live, Bool.and_eq_true] at ev dv
        rw [e0, if_pos rfl] at ev
        rw [d1, if_neg (by omega)] at dv
        exact (no_two (J.ents e he) (J.ents d hd) e0 d1 ev.1 dv.1 ev.2 dv.2).elim
end Go.Eng.SeatA

/- Layer 16: LeaseOne, a round of each kind. -/
import Derived.Test.YtakblaaipaehjaaSaW
set_option linter.unusedSimpArgs false
set_option linter.unusedVariables false
set_option maxHeartbeats 40000000
namespace Go.Eng.SeatA
open Go.Proofs
/-- The heap with an act's own block. -/
def px (H : AHeap) (x : Act7) : AHeap := (H.push (.cells [.int .i64 0, .int .i64 0, .int .i64 0, .int .i64 0, .int .i64 0, .int .i64 0, .int .i64 0] 42 7 .fixed)).set H.n (.cells x.cs 42 7 .fixed)
theorem px_n (H : AHeap) (x : Act7) : (px H x).n = H.n + 1 := by simp [px]
theorem px_lt {H : AHeap} {x : Act7} {z : Nat} (h : z < H.n) : (px H x).get z = H.get z := by
  unfold px; rw [AHeap.get_set, if_neg (by omega), AHeap.get_push, if_neg (by omega)]
theorem px_self (H : AHeap) (x : Act7) : (px H x).get H.n = .cells x.cs 42 7 .fixed := by
  unfold px; rw [AHeap.get_set, if_pos rfl]
theorem keeps_three (G : AHeap) (x y z : Int) : sliceInts (G.push (.cells [.int .i64 x, .int .i64 y, .int .i64 z] 3 1 .fixed)) (.sl G.n 0 3 (some 3)) = some [x, y, z] := by
  simp [sliceInts, AHeap.get_push, AVal.scals, AVal.scal, intsOf]
abbrev tmL (bl o n : Nat) (c : Option Nat) (A P : Nat) (all : AVal) (i : Nat) : Tm := [(1, .sl bl o n c), (2, .ptr A 0), (5, .bool true), (7, .ptr P 0), (8, all), (9, .int .i64 i)]
def kindL (x : Act7) : Int := (IntKind.i64.wrap (x.kd.tmod 4 + 4)).tmod 4
theorem stepT {H : AHeap} {bl o n : Nat} {c : Option Nat} {f : Nat → Act7} {A P : Nat} {a0 a1 a2 T0 F0 T1 F1 T2 F2 : Int} {all : AVal} {es : List Ent} {i : Nat} (J : JL H bl o n f A P a0 a1 a2 T0 F0 T1 F1 T2 F2 all es i) (hi : i < n) (hn : n ≤ 120) (k2 : ¬ kindL (f i) = 2) (k3 : ¬ kindL (f i) = 3) :
    ∃ H' a0' a1' a2', JL H' bl o n f A P a0' a1' a2' T0 F0 T1 F1 T2 F2 all es (i + 1) ∧
      aden Φ8 b8_3 ⟨tmL bl o n c A P all i, H, []⟩ = some (.normal, ⟨tmL bl o n c A P all (i + 1), H', []⟩) := by
  have lb := J.lb
  have lA := J.lA
  have lP := J.lP
  have J1 := (J.keep (H' := (px H (f i)).push (.cells [.int .i64 (f i).b0, .int .i64 (f i).b1, .int .i64 (f i).b2] 3 1 .fixed)) (by simp [px_n]; omega) fun z hz => by rw [AHeap.get_push, if_neg (by rw [px_n]; omega), px_lt hz])
  have hx : ((px H (f i)).push (.cells [.int .i64 (f i).b0, .int .i64 (f i).b1, .int .i64 (f i).b2] 3 1 .fixed)).get H.n = .cells (f i).cs 42 7 .fixed := by rw [AHeap.get_push, if_neg (by rw [px_n]; omega), px_self]
  have hk := keeps_three (px H (f i)) (f i).b0 (f i).b1 (f i).b2
  rw [px_n] at hk
  obtain ⟨L, e, es', md, hg, hL, hf⟩ := J.ms
  have hxx := hf i hi
  have hle : o + i * 7 + 7 ≤ L.length := by omega
  have hw : IntKind.i64.wrap ((i : Int) + 1) = ((i : Int) + 1) := by rw [IntKind.wrap_i64]; omega
  have h1 : (i : Int) < (n : Int) := by omega
  have n1 : ¬ A = H.n := by omega
  have n2 : ¬ P = H.n := by omega
  have n3 : H.n < H.n + 1 := by omega
  unfold kindL at k2 k3
  by_cases hkp : keepL (f i).b0 = true ∧ keepL (f i).b1 = true ∧ keepL (f i).b2 = true
  · obtain ⟨q0, q1, q2⟩ := hkp
    have r0 := q0
    have r1 := q1
    have r2 := q2
    simp only [keepL, Bool.and_eq_true, decide_eq_true_eq] at r0 r1 r2
    have B0 := J.base.hA0
    have B1 := J.base.hA1
    have B2 := J.base.hA2
    have hi120 := J.base.hi
    obtain ⟨H1, g1, g2, g3, g4⟩ := tick8 (l := .sl bl o n c) (all := all) (P := P) (i := i) J1.hA hx (show H.n ≠ A by omega) J1.lA (by simp [px_n]; omega) (by rw [IntKind.wrap_i64]; omega) (by rw [IntKind.wrap_i64]; omega) (by rw [IntKind.wrap_i64]; omega)
    have g1' : H1.n = H.n + 1 + 1 := by rw [g1]; simp [px_n]
    have J2 : JL H1 bl o n f A P (a0 + (f i).b0) (a1 + (f i).b1) (a2 + (f i).b2) T0 F0 T1 F1 T2 F2 all es (i + 1) :=
      ⟨J1.ms.mono (g2 _ J.bA), by rw [g1]; exact J1.lb, by rw [g1]; exact J1.lA, by rw [g1]; exact J1.lP, J.bA, J.bP, J.AP, g3, (g2 _ (Ne.symm J.AP)).trans J1.hP, J1.hall.keep (by omega) (fun z _ _ h _ => g2 z h), J.base.tick (by omega) r0 r1 r2, fun e he => (J.ents e he).tick r0 r1 r2, by have := J.len; omega⟩
    obtain ⟨H2, h0, h1', J3, m1, m2, m3, m4, m5⟩ := J2.have (.sl bl o n c) i
    have g4 := iter_mono g4 (show 4 ≤ fuel by unfold fuel; omega)
    refine ⟨H2, _, _, _, J3, ?_⟩
    unfold hv2 at m5
    rw [g1'] at m3 m5
    have n4 : H1.n = H.n + 1 + 1 := g1'
    have n5 : H.n + 1 + 1 < H2.n := by omega
    unfold tmT px at g4
    unfold px at hk
    unfold Act7.cs at hxx g4 hk
    unfold b8_3 tmL
    cases c0 : h0 <;> cases c1 : h1' <;> simp [c0, c1] at m4 <;> rw [c0, c1] at m3
    all_goals simp (maxSteps := 10000000) +contextual [go_sem, hg, hi, h1, hxx, hle, hw, k2, k3, p8_24, r24, hk, q0, q1, q2, g4, n4, n5, m3, m5]
  · refine ⟨_, _, _, _, J1.next (by omega), ?_⟩
    unfold px at hk ⊢
    unfold Act7.cs at hxx hk ⊢
    unfold b8_3 tmL
    have hfalse : (keepL (f i).b0 && (keepL (f i).b1 && keepL (f i).b2)) = false := by
      cases e0 : keepL (f i).b0 <;> cases e1 : keepL (f i).b1 <;> cases e2 : keepL (f i).b2 <;> simp_all
    simp (maxSteps := 10000000) +contextual [go_sem, hg, hi, h1, hxx, hle, hw, k2, k3, p8_24, r24, hk, hfalse]
end Go.Eng.SeatA

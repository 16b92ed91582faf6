/- Layer 16: LeaseOne, a node asks. -/
import Derived.Test.YtakblaaipaehjaaSaX
import Derived.Test.YtakblaaipaehjaaSaN
set_option linter.unusedSimpArgs false
set_option linter.unusedVariables false
set_option maxHeartbeats 40000000
namespace Go.Eng.SeatA
open Go.Proofs
theorem flat_cs (es : List Ent) (e : Ent) : flat (es ++ [e]) = flat es ++ e.cs := by rw [flat_app]; rfl
theorem ask_append {G : AHeap} {bl A P b : Nat} {all : AVal} {es : List Ent} {e : Ent} (h : AllOK G bl A P all es) (hb : G.get b = .cells e.cs 44 4 .fixed) (lb : b < G.n) (hl : es.length ≤ 120) :
    ∃ G', appendA G 44 4 32 all (.sl b 0 1 (some 1)) = some (.sl G.n 0 (es.length + 1) none, G') ∧ G'.n = G.n + 1 ∧ (∀ z, z < G.n → (z = bl ∨ z = A ∨ z = P) → G'.get z = G.get z) ∧ G'.get G.n = .cells (flat (es ++ [e])) 44 4 .elastic := by
  unfold Ent.cs at hb
  rcases h with ⟨rfl, rfl⟩ | ⟨q, rfl, lq, q1, q2, q3, hQ⟩
  · refine ⟨G.push (.cells e.cs 44 4 .elastic), ?_, by simp, fun z hz _ => by rw [AHeap.get_push, if_neg (by omega)], by rw [AHeap.get_push, if_pos rfl]; rfl⟩
    simp [appendA, lenA, srcCells, hb, Ent.cs, AVal.isCell]
  · refine ⟨(G.set q .dead).push (.cells (flat (es ++ [e])) 44 4 .elastic), ?_, by simp, fun z hz h => by rw [AHeap.get_push, if_neg (by simp; omega), AHeap.get_set, if_neg (by omega)], ?_⟩
    · have e1 : (flat es).take (es.length * 4) = flat es := by rw [← flat_len]; exact List.take_length
      have e2 : ¬ (es.length + 1) * 4 ≤ es.length * 4 := by omega
      have e3 : (es.length + 1) * 32 ≤ 17592186044416 := by omega
      have e4 : es.length + 1 ≤ 17592186044416 := by omega
      have e5 : AHeap.n (G.set q .dead) = G.n := rfl
      simp [appendA, lenA, srcCells, hb, hQ, roomA, flat_len, flat_cs, e1, e2, e3, e4, Ent.cs, AVal.isCell]
    · show AHeap.get _ (G.set q .dead).n = _
      rw [AHeap.get_push, if_pos rfl]
def toL (x : Act7) : Int := (IntKind.i64.wrap (x.to.tmod 3 + 3)).tmod 3
theorem toL_of (x : Act7) : toL x = 0 ∨ toL x = 1 ∨ toL x = 2 := by
  unfold toL
  have h1 := Int.tmod_lt_of_pos x.to (show (0 : Int) < 3 by omega)
  have h2 : -3 < x.to.tmod 3 := Int.lt_tmod_of_pos x.to (by omega)
  have h3 : IntKind.i64.wrap (x.to.tmod 3 + 3) = x.to.tmod 3 + 3 := by rw [IntKind.wrap_i64]; omega
  rw [h3]
  have h4 := Int.tmod_lt_of_pos (x.to.tmod 3 + 3) (show (0 : Int) < 3 by omega)
  have h5 : 0 ≤ (x.to.tmod 3 + 3).tmod 3 := Int.tmod_nonneg 3 (by omega)
  omega
theorem stepS {H : AHeap} {bl o n : Nat} {c : Option Nat} {f : Nat → Act7} {A P : Nat} {a0 a1 a2 T0 F0 T1 F1 T2 F2 : Int} {all : AVal} {es : List Ent} {i : Nat} (J : JL H bl o n f A P a0 a1 a2 T0 F0 T1 F1 T2 F2 all es i) (hi : i < n) (hn : n ≤ 120) (k2 : kindL (f i) = 2)
    (hs : toL (f i) = (f i).nd % 2 ∨ barsL (sel T0 T1 T2 ((f i).nd % 2)) (sel F0 F1 F2 ((f i).nd % 2)) ((f i).nd % 2) (sel a0 a1 a2 ((f i).nd % 2)) = true) :
    ∃ H', JL H' bl o n f A P a0 a1 a2 T0 F0 T1 F1 T2 F2 all es (i + 1) ∧
      aden Φ8 b8_3 ⟨tmL bl o n c A P all i, H, []⟩ = some (.normal, ⟨tmL bl o n c A P all (i + 1), H', []⟩) := by
  have lb := J.lb
  have lA := J.lA
  have lP := J.lP
  have J1 := (J.keep (H' := px H (f i)) (by rw [px_n]; omega) fun z hz => px_lt hz)
  obtain ⟨H2, h0, h1', J3, m1, m2, m3, m4, m5⟩ := J1.have (.sl bl o n c) i
  refine ⟨H2, J3.next (by omega), ?_⟩
  have hx := px_self H (f i)
  obtain ⟨L, e, es', md, hg, hL, hf⟩ := J.ms
  have hxx := hf i hi
  have hle : o + i * 7 + 7 ≤ L.length := by omega
  have hw : IntKind.i64.wrap ((i : Int) + 1) = ((i : Int) + 1) := by rw [IntKind.wrap_i64]; omega
  have h1 : (i : Int) < (n : Int) := by omega
  have n1 : ¬ A = H.n := by omega
  have n2 : ¬ P = H.n := by omega
  have n3 : H.n < H.n + 1 := by omega
  have n5 : H.n + 1 < H2.n := by rw [m1, px_n]; omega
  have n6 : A < H.n + 1 := by omega
  have n7 : P < H.n + 1 := by omega
  have hA := J.hA
  have hP := J.hP
  rw [px_n] at m3
  unfold hv2 at m5
  rw [px_n] at m5
  unfold px at m5
  unfold kindL at k2
  unfold toL at hs
  obtain ⟨to', hto⟩ : ∃ t, t = (IntKind.i64.wrap ((f i).to.tmod 3 + 3)).tmod 3 := ⟨_, rfl⟩
  rw [← hto] at hs
  have hto := hto.symm
  unfold Act7.cs at hxx m5
  unfold b8_3 tmL
  rcases (show (f i).nd % 2 = 0 ∨ (f i).nd % 2 = 1 by omega) with nd | nd <;> rw [nd] at hs <;> simp only [sel0, sel1] at hs
  all_goals
    by_cases ht : to' = (f i).nd % 2
    · rw [nd] at ht
      cases c0 : h0 <;> cases c1 : h1' <;> simp [c0, c1] at m4 <;> rw [c0, c1] at m3
      all_goals simp (maxSteps := 10000000) +contextual [go_sem, hg, hi, h1, hxx, hle, hw, k2, nd, hto, ht, n1, n2, n3, n5, n6, n7, lA, lP, hA, hP, m3, m5]
    · rw [nd] at ht
      have hb := hs.resolve_left ht
      cases c0 : h0 <;> cases c1 : h1' <;> simp [c0, c1] at m4 <;> rw [c0, c1] at m3
      all_goals simp (maxSteps := 10000000) +contextual [go_sem, hg, hi, h1, hxx, hle, hw, k2, nd, hto, ht, hb, n1, n2, n3, n5, n6, n7, lA, lP, hA, hP, m3, m5, p8_21, r21]
end Go.Eng.SeatA

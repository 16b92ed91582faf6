/- Layer 16: LeaseOne, a lease is given, and may be. -/
import Derived.Test.YtakblaaipaehjaaSaA2
set_option linter.unusedSimpArgs false
set_option linter.unusedVariables false
set_option maxHeartbeats 40000000
namespace Go.Eng.SeatA
open Go.Proofs
theorem stepG2 {H : AHeap} {bl o n : Nat} {c : Option Nat} {f : Nat → Act7} {A P : Nat} {a0 a1 a2 T0 F0 T1 F1 T2 F2 : Int} {all : AVal} {es : List Ent} {i k : Nat} (J : JL H bl o n f A P a0 a1 a2 T0 F0 T1 F1 T2 F2 all es i) (hi : i < n) (hn : n ≤ 120) (k2 : kindL (f i) = 3) (hk : k < es.length) (hidx : idxL (f i) es.length = k)
    (hgv : es[k].given = false) (hb : barsL (sel T0 T1 T2 es[k].to) (sel F0 F1 F2 es[k].to) es[k].node (sel a0 a1 a2 es[k].to) = false) :
    ∃ H' T0' F0' T1' F1' T2' F2' all' es', JL H' bl o n f A P a0 a1 a2 T0' F0' T1' F1' T2' F2' all' es' (i + 1) ∧
      aden Φ8 b8_3 ⟨tmL bl o n c A P all i, H, []⟩ = some (.normal, ⟨tmL bl o n c A P all' (i + 1), H', []⟩) := by
  have lb := J.lb
  have lA := J.lA
  have lP := J.lP
  have bA := J.bA
  have bP := J.bP
  have AP := J.AP
  have E := J.ents _ (List.getElem_mem hk)
  have hlen : es.length ≤ 120 := Nat.le_trans J.len J.base.hi
  rcases J.hall with ⟨he, _⟩ | ⟨q, rfl, lq, q1, q2, q3, hQ⟩
  · subst he; simp at hk
  obtain ⟨a, ha⟩ : ∃ a : Ent, a = es[k] := ⟨_, rfl⟩
  obtain ⟨PC, hPC⟩ : ∃ b : ABlk, b = .cells [.int .i64 (up 0 a.to a.node T0), .int .i64 (up 0 a.to a0 F0), .int .i64 (up 1 a.to a.node T1), .int .i64 (up 1 a.to a1 F1), .int .i64 (up 2 a.to a.node T2), .int .i64 (up 2 a.to a2 F2)] 39 6 .fixed := ⟨_, rfl⟩
  obtain ⟨G, hG⟩ : ∃ G, G = ((pa (px H (f i)) a).set P PC).set q (.cells (flat (es.set k { a with given := true })) 44 4 .elastic) := ⟨_, rfl⟩
  have Gn : G.n = H.n + 1 + 1 := by rw [hG]; show (pa (px H (f i)) a).n = _; rw [pa_n, px_n]
  have GP : G.get P = PC := by rw [hG, AHeap.get_set, if_neg (Ne.symm q3), AHeap.get_set, if_pos rfl]
  have GQ : G.get q = .cells (flat (es.set k { a with given := true })) 44 4 .elastic := by rw [hG, AHeap.get_set, if_pos rfl]
  have Gz : ∀ z, z < H.n → z ≠ P → z ≠ q → G.get z = H.get z := fun z hz h1 h2 => by
    rw [hG, AHeap.get_set, if_neg h2, AHeap.get_set, if_neg h1, pa_lt (by rw [px_n]; omega), px_lt hz]
  have GD : G.get (H.n + 1) = .cells a.cs 44 4 .fixed := by
    rw [hG, AHeap.get_set, if_neg (by omega), AHeap.get_set, if_neg (by omega)]
    have := pa_self (px H (f i)) a
    rw [px_n] at this; exact this
  obtain ⟨H1, g1, g2, g3, g4⟩ := loopZ (l := .sl bl o n c) (A := A) (P := P) (i := i) (a := a) (es := es.set k { a with given := true }) (show H.n + 1 ≠ q by omega) hlen es.length 0 (by omega) (H := G) (cs := es.set k { a with given := true }) GQ GD (by omega) (by omega) (by simp) (by simp) (fun x _ h => by omega) (fun x _ => rfl)
  have g4 := iter_mono g4 (show es.length + 1 ≤ fuel by unfold fuel; omega)
  unfold tmZ at g4
  rw [show ((0 : Nat) : Int) = 0 from rfl] at g4
  have H1n : H1.n = H.n + 1 + 1 := g1.trans Gn
  have z1 : ∀ z, z < H.n → z ≠ P → z ≠ q → H1.get z = H.get z := fun z hz h1 h2 => (g2 z h2).trans (Gz z hz h1 h2)
  have EE : EntOK a0 a1 a2 T0 F0 T1 F1 T2 F2 a := by rw [ha]; exact E
  have J3 : JL H1 bl o n f A P a0 a1 a2 (up 0 a.to a.node T0) (up 0 a.to a0 F0) (up 1 a.to a.node T1) (up 1 a.to a1 F1) (up 2 a.to a.node T2) (up 2 a.to a2 F2) (.sl q 0 es.length none) ((es.set k { a with given := true }).map (zap a.to)) (i + 1) := by
    refine ⟨J.ms.mono (z1 bl lb bP (Ne.symm q1)), by omega, by omega, by omega, bA, bP, AP, (z1 A lA AP (Ne.symm q2)).trans J.hA, ((g2 P (Ne.symm q3)).trans GP).trans hPC, .inr ⟨q, by simp, by omega, q1, q2, q3, g3⟩, (J.base.ask (by rcases EE.n with h | h <;> omega)).next (by omega), ?_, by have := J.len; simp; omega⟩
    intro d hd
    obtain ⟨x, hx, rfl⟩ := List.mem_map.1 hd
    rcases List.mem_or_eq_of_mem_set hx with h | h
    · exact (J.ents x h).give J.base EE.t EE.n EE.nt (by rw [ha]; exact hb)
    · rw [h]
      have : zap a.to { a with given := true } = { a with given := true } := by
        unfold zap; rw [if_neg (Ne.symm EE.nt)]
      rw [this]
      exact EE.given J.base
  obtain ⟨H2, h0, h1', J4, m1, m2, m3, m4, m5⟩ := J3.have (.sl bl o n c) i
  refine ⟨H2, _, _, _, _, _, _, _, _, J4, ?_⟩
  obtain ⟨L, e', es', md, hg, hL, hf⟩ := J.ms
  have hxx := hf i hi
  have hle : o + i * 7 + 7 ≤ L.length := by omega
  have hw : IntKind.i64.wrap ((i : Int) + 1) = ((i : Int) + 1) := by rw [IntKind.wrap_i64]; omega
  have h1 : (i : Int) < (n : Int) := by omega
  have hA := J.hA
  have hP := J.hP
  have n1 : ¬ A = H.n := by omega
  have n2 : ¬ P = H.n := by omega
  have n5 : H.n + 1 + 1 < H2.n := by omega
  have n6 : A < H.n + 1 := by omega
  have n7 : P < H.n + 1 := by omega
  have n8 : ¬ A = H.n + 1 := by omega
  have n9 : ¬ P = H.n + 1 := by omega
  have n10 : A < H.n + 1 + 1 := by omega
  have n11 : P < H.n + 1 + 1 := by omega
  have n12 : ¬ q = H.n := by omega
  have n13 : ¬ q = H.n + 1 := by omega
  have n14 : ¬ A = P := AP
  have n15 : ¬ q = P := q3
  have n16 : ¬ H.n + 1 = P := by omega
  have n17 : ¬ H.n + 1 = q := by omega
  unfold hv2 at m5
  rw [H1n] at m3 m5
  unfold kindL at k2
  unfold idxL at hidx
  have nz : ¬ es = [] := by rintro rfl; simp at hk
  have ht := flat_take es k hk
  have hfl := flat_len es
  have hk4 : k * 4 + 4 ≤ es.length * 4 := by omega
  have hk3 : k * 4 + 3 + 1 ≤ es.length * 4 := by omega
  have hset := flat_set3 es k hk true
  have hH1 : H1.n = H.n + 1 + 1 := H1n
  rw [← ha] at ht hset hgv hb
  rw [hG, ← hset, hPC] at g4
  unfold pa px at g4
  rw [show (AHeap.set (AHeap.push H (.cells [.int .i64 0, .int .i64 0, .int .i64 0, .int .i64 0, .int .i64 0, .int .i64 0, .int .i64 0] 42 7 .fixed)) H.n (.cells (f i).cs 42 7 .fixed)).n = H.n + 1 by simp] at g4
  unfold Act7.cs at hxx g4
  unfold Ent.cs at ht g4
  rw [hgv] at ht g4
  unfold b8_3 tmL
  rcases EE.t with t | t | t <;> rw [t] at ht hb g4 <;> simp only [sel0, sel1, sel2, up] at hb g4 <;> simp at g4
  all_goals
    cases c0 : h0 <;> cases c1 : h1' <;> simp [c0, c1] at m4 <;> rw [c0, c1] at m3
    all_goals simp (maxSteps := 10000000) +contextual [go_sem, hg, hi, h1, hxx, hle, hw, k2, nz, hidx, hk, ht, t, hfl, hk4, hk3, hQ, hb, hA, hP, lA, lP, n1, n2, n5, n6, n7, n8, n9, n10, n11, n12, n13, n14, n15, n16, n17, p8_21, r21, g4, hH1, m3, m5]
end Go.Eng.SeatA

/- Layer 16: LeaseOne, a node asks, and may. -/
import Derived.Test.YtakblaaipaehjaaSaY
set_option linter.unusedSimpArgs false
set_option linter.unusedVariables false
set_option maxHeartbeats 40000000
namespace Go.Eng.SeatA
open Go.Proofs
theorem stepA {H : AHeap} {bl o n : Nat} {c : Option Nat} {f : Nat → Act7} {A P : Nat} {a0 a1 a2 T0 F0 T1 F1 T2 F2 : Int} {all : AVal} {es : List Ent} {i : Nat} (J : JL H bl o n f A P a0 a1 a2 T0 F0 T1 F1 T2 F2 all es i) (hi : i < n) (hn : n ≤ 120) (k2 : kindL (f i) = 2)
    (hne : ¬ toL (f i) = (f i).nd % 2) (hb : barsL (sel T0 T1 T2 ((f i).nd % 2)) (sel F0 F1 F2 ((f i).nd % 2)) ((f i).nd % 2) (sel a0 a1 a2 ((f i).nd % 2)) = false) :
    ∃ H' T0' F0' T1' F1' T2' F2' all' es', JL H' bl o n f A P a0 a1 a2 T0' F0' T1' F1' T2' F2' all' es' (i + 1) ∧
      aden Φ8 b8_3 ⟨tmL bl o n c A P all i, H, []⟩ = some (.normal, ⟨tmL bl o n c A P all' (i + 1), H', []⟩) := by
  have lb := J.lb
  have lA := J.lA
  have lP := J.lP
  have bA := J.bA
  have bP := J.bP
  have AP := J.AP
  have htt := toL_of (f i)
  obtain ⟨nd, hnd⟩ : ∃ k, k = (f i).nd % 2 := ⟨_, rfl⟩
  rw [← hnd] at hne hb
  have hn01 : nd = 0 ∨ nd = 1 := by omega
  -- the promise
  obtain ⟨G1, hG1⟩ : ∃ G, G = (px H (f i)).set P (.cells [.int .i64 (up 0 nd nd T0), .int .i64 (up 0 nd a0 F0), .int .i64 (up 1 nd nd T1), .int .i64 (up 1 nd a1 F1), .int .i64 (up 2 nd nd T2), .int .i64 (up 2 nd a2 F2)] 39 6 .fixed) := ⟨_, rfl⟩
  have G1n : G1.n = H.n + 1 := by rw [hG1]; exact px_n H (f i)
  have G1P : G1.get P = .cells [.int .i64 (up 0 nd nd T0), .int .i64 (up 0 nd a0 F0), .int .i64 (up 1 nd nd T1), .int .i64 (up 1 nd a1 F1), .int .i64 (up 2 nd nd T2), .int .i64 (up 2 nd a2 F2)] 39 6 .fixed := by rw [hG1, AHeap.get_set, if_pos rfl]
  have G1z : ∀ z, z < H.n → z ≠ P → G1.get z = H.get z := fun z hz hq => by rw [hG1, AHeap.get_set, if_neg hq, px_lt hz]
  -- the new lease
  obtain ⟨e, he⟩ : ∃ e : Ent, e = ⟨nd, toL (f i), sel a0 a1 a2 nd, false⟩ := ⟨_, rfl⟩
  have hlen : es.length ≤ 120 := Nat.le_trans J.len J.base.hi
  have hall2 : AllOK (G1.push (.cells e.cs 44 4 .fixed)) bl A P all es := J.hall.keep (by simp [G1n]; omega) fun z hz _ _ hp => by rw [AHeap.get_push, if_neg (by omega)]; exact G1z z hz hp
  obtain ⟨G3, ap, G3n, G3z, G3q⟩ := ask_append hall2 (b := H.n + 1) (e := e) (by rw [AHeap.get_push, if_pos G1n.symm]) (by simp [G1n]) hlen
  have P2 : (G1.push (.cells e.cs 44 4 .fixed)).n = H.n + 1 + 1 := by simp [G1n]
  rw [P2] at ap G3n G3q
  have z3 : ∀ z, z < H.n → (z = bl ∨ z = A ∨ z = P) → G3.get z = G1.get z := fun z hz hq => (G3z z (by rw [P2]; omega) hq).trans (by rw [AHeap.get_push, if_neg (by omega)])
  have J3 : JL G3 bl o n f A P a0 a1 a2 (up 0 nd nd T0) (up 0 nd a0 F0) (up 1 nd nd T1) (up 1 nd a1 F1) (up 2 nd nd T2) (up 2 nd a2 F2) (.sl (H.n + 1 + 1) 0 (es.length + 1) none) (es ++ [e]) (i + 1) := by
    refine ⟨J.ms.mono ((z3 bl lb (.inl rfl)).trans (G1z bl lb bP)), by omega, by omega, by omega, bA, bP, AP, ((z3 A lA (.inr (.inl rfl))).trans (G1z A lA AP)).trans J.hA, (z3 P lP (.inr (.inr rfl))).trans G1P, .inr ⟨H.n + 1 + 1, by simp, by omega, by omega, by omega, by omega, G3q⟩, (J.base.ask (by omega)).next (by omega), ?_, by have := J.len; simp; omega⟩
    intro d hd
    rcases List.mem_append.1 hd with h | h
    · exact (J.ents d h).ask J.base hn01 hb
    · rw [List.mem_singleton.1 h, he]; exact EntOK.new J.base hn01 htt hne
  obtain ⟨H2, h0, h1', J4, m1, m2, m3, m4, m5⟩ := J3.have (.sl bl o n c) i
  refine ⟨H2, _, _, _, _, _, _, _, _, J4, ?_⟩
  obtain ⟨L, e', es', md, hg, hL, hf⟩ := J.ms
  have hxx := hf i hi
  have hle : o + i * 7 + 7 ≤ L.length := by omega
  have hw : IntKind.i64.wrap ((i : Int) + 1) = ((i : Int) + 1) := by rw [IntKind.wrap_i64]; omega
  have h1 : (i : Int) < (n : Int) := by omega
  have n1 : ¬ A = H.n := by omega
  have n2 : ¬ P = H.n := by omega
  have n3 : H.n < H.n + 1 := by omega
  have n4 : G3.n = H.n + 1 + 1 + 1 := G3n
  have n5 : H.n + 1 + 1 + 1 < H2.n := by omega
  have n6 : A < H.n + 1 := by omega
  have n7 : P < H.n + 1 := by omega
  have n8 : ¬ A = P := AP
  have n9 : ¬ A = H.n + 1 := by omega
  have hA := J.hA
  have hP := J.hP
  unfold hv2 at m5
  rw [G3n] at m3 m5
  rw [hG1, he] at ap
  unfold px at ap
  unfold kindL at k2
  unfold toL at hne
  unfold Ent.cs toL at ap
  unfold Act7.cs at hxx ap
  unfold b8_3 tmL
  rcases hn01 with nd0 | nd0
  · have hq0 := hnd.symm.trans nd0
    clear hnd
    subst nd0
    simp only [sel0, up] at hb ap
    simp at ap
    cases c0 : h0 <;> cases c1 : h1' <;> simp [c0, c1] at m4 <;> rw [c0, c1] at m3
    all_goals simp (maxSteps := 10000000) +contextual [go_sem, hg, hi, h1, hxx, hle, hw, k2, hq0, hne, hb, n1, n2, n3, n4, n5, n6, n7, n8, n9, lA, lP, hA, hP, m3, m5, p8_21, r21, ap]
  · have hq0 := hnd.symm.trans nd0
    clear hnd
    subst nd0
    simp only [sel1, up] at hb ap
    simp at ap
    cases c0 : h0 <;> cases c1 : h1' <;> simp [c0, c1] at m4 <;> rw [c0, c1] at m3
    all_goals simp (maxSteps := 10000000) +contextual [go_sem, hg, hi, h1, hxx, hle, hw, k2, hq0, hne, hb, n1, n2, n3, n4, n5, n6, n7, n8, n9, lA, lP, hA, hP, m3, m5, p8_21, r21, ap]
end Go.Eng.SeatA

/- Layer 17: RecordSafe, the plain law. -/
import Derived.Test.YtakblaaipaehjaaSaO
set_option linter.unusedSimpArgs false
set_option linter.unusedVariables false
set_option maxHeartbeats 40000000
namespace Go.Eng.SeatA
/-- What holds of three nodes ahead of each step. -/
structure InvR (t0 n0 s0 t1 n1 s1 t2 n2 s2 : Int) (h0 h1 : Bool) (p tm : Int) (nt sm : Bool) (i : Nat) : Prop where
  r0 : 0 ≤ t0 ∧ t0 ≤ tm ∧ 0 ≤ n0 ∧ n0 ≤ i ∧ 1 ≤ s0 ∧ s0 ≤ 3
  r1 : 0 ≤ t1 ∧ t1 ≤ tm ∧ 0 ≤ n1 ∧ n1 ≤ i ∧ 1 ≤ s1 ∧ s1 ≤ 3
  r2 : 0 ≤ t2 ∧ t2 ≤ tm ∧ 0 ≤ n2 ∧ n2 ≤ i ∧ 1 ≤ s2 ∧ s2 ≤ 3
  rt : 0 ≤ tm ∧ tm ≤ i ∧ i ≤ 200
  rp : -1 ≤ p ∧ p ≤ 1
  P0 : p = 0 → t0 = tm ∧ (t1 = tm → n1 ≤ n0) ∧ (t2 = tm → n2 ≤ n0)
  P1 : p = 1 → t1 = tm ∧ (t0 = tm → n0 ≤ n1) ∧ (t2 = tm → n2 ≤ n1)
  H0 : h0 = false → p = 1 ∧ s1 = 2 ∧ (s0 = 2 ∨ (s2 = 2 ∧ (t0 < t2 ∨ (t0 = t2 ∧ n0 ≤ n2))))
  H1 : h1 = false → p = 0 ∧ s0 = 1 ∧ (s1 = 1 ∨ (s2 = 1 ∧ (t1 < t2 ∨ (t1 = t2 ∧ n1 ≤ n2))))
  N : nt = true → (p = 0 ∧ ((t1 = t0 ∧ n1 = n0 ∧ s1 = s0) ∨ (t2 = t0 ∧ n2 = n0 ∧ s2 = s0))) ∨ (p = 1 ∧ ((t0 = t1 ∧ n0 = n1 ∧ s0 = s1) ∨ (t2 = t1 ∧ n2 = n1 ∧ s2 = s1)))
  S : sm = true → h0 = true ∧ h1 = true
theorem has0 (s : Int) : hasL s 0 = decide (s % 2 = 1) := by simp [hasL]
theorem has1 (s : Int) : hasL s 1 = decide (s / 2 % 2 = 1) := by simp [hasL]
theorem may_0 {t n s vt vn vs : Int} (h : mayR t n s 0 vt vn vs = true) : s % 2 = 1 ∧ (vt < t ∨ (t = vt ∧ vn < n) ∨ vs % 2 = 1) := by
  simp only [mayR, has0, newerL, Bool.and_eq_true, Bool.or_eq_true, decide_eq_true_eq] at h
  omega
theorem may_1 {t n s vt vn vs : Int} (h : mayR t n s 1 vt vn vs = true) : s / 2 % 2 = 1 ∧ (vt < t ∨ (t = vt ∧ vn < n) ∨ vs / 2 % 2 = 1) := by
  simp only [mayR, has1, newerL, Bool.and_eq_true, Bool.or_eq_true, decide_eq_true_eq] at h
  omega
theorem InvR.next {t0 n0 s0 t1 n1 s1 t2 n2 s2 p tm : Int} {h0 h1 nt sm : Bool} {i : Nat} (J : InvR t0 n0 s0 t1 n1 s1 t2 n2 s2 h0 h1 p tm nt sm i) (hi : i < 200) : InvR t0 n0 s0 t1 n1 s1 t2 n2 s2 h0 h1 p tm nt sm (i + 1) := by
  obtain ⟨r0, r1, r2, rt, rp, P0, P1, H0, H1, N, S⟩ := J
  refine ⟨?_, ?_, ?_, ?_, ?_, ?_, ?_, ?_, ?_, ?_, ?_⟩
  all_goals (first | omega | (intro hh; first | (have H0' := H0 hh; omega) | (have H1' := H1 hh; omega) | (have N' := N hh; omega) | (have S' := S hh; simp_all; done) | (simp at hh; done) | (exact S hh) | omega | (simp_all; done) | (simp_all; omega)))
theorem InvR.elect01 {t0 n0 s0 t1 n1 s1 t2 n2 s2 p tm : Int} {h0 h1 nt sm : Bool} {i : Nat} (J : InvR t0 n0 s0 t1 n1 s1 t2 n2 s2 h0 h1 p tm nt sm i) (hi : i < 200) (hm : mayR t0 n0 s0 0 t1 n1 s1 = true) : h0 = true ∧ InvR (tm + 1) 0 s0 t1 n1 s1 t2 n2 s2 h0 h1 0 (tm + 1) false false (i + 1) := by
  obtain ⟨r0, r1, r2, rt, rp, P0, P1, H0, H1, N, S⟩ := J
  have hm := may_0 hm
  have hh : h0 = true := by
    cases e : h0 with
    | true => rfl
    | false =>
      have Q := H0 e
      have := P1 Q.1
      omega
  refine ⟨hh, ?_⟩
  refine ⟨?_, ?_, ?_, ?_, ?_, ?_, ?_, ?_, ?_, ?_, ?_⟩
  all_goals (first | omega | (intro hh; first | (have H0' := H0 hh; omega) | (have H1' := H1 hh; omega) | (have N' := N hh; omega) | (have S' := S hh; simp_all; done) | (simp at hh; done) | (exact S hh) | omega | (simp_all; done) | (simp_all; omega)))
theorem InvR.elect02 {t0 n0 s0 t1 n1 s1 t2 n2 s2 p tm : Int} {h0 h1 nt sm : Bool} {i : Nat} (J : InvR t0 n0 s0 t1 n1 s1 t2 n2 s2 h0 h1 p tm nt sm i) (hi : i < 200) (hm : mayR t0 n0 s0 0 t2 n2 s2 = true) : h0 = true ∧ InvR (tm + 1) 0 s0 t1 n1 s1 t2 n2 s2 h0 h1 0 (tm + 1) false false (i + 1) := by
  obtain ⟨r0, r1, r2, rt, rp, P0, P1, H0, H1, N, S⟩ := J
  have hm := may_0 hm
  have hh : h0 = true := by
    cases e : h0 with
    | true => rfl
    | false =>
      have Q := H0 e
      have := P1 Q.1
      omega
  refine ⟨hh, ?_⟩
  refine ⟨?_, ?_, ?_, ?_, ?_, ?_, ?_, ?_, ?_, ?_, ?_⟩
  all_goals (first | omega | (intro hh; first | (have H0' := H0 hh; omega) | (have H1' := H1 hh; omega) | (have N' := N hh; omega) | (have S' := S hh; simp_all; done) | (simp at hh; done) | (exact S hh) | omega | (simp_all; done) | (simp_all; omega)))
theorem InvR.elect10 {t0 n0 s0 t1 n1 s1 t2 n2 s2 p tm : Int} {h0 h1 nt sm : Bool} {i : Nat} (J : InvR t0 n0 s0 t1 n1 s1 t2 n2 s2 h0 h1 p tm nt sm i) (hi : i < 200) (hm : mayR t1 n1 s1 1 t0 n0 s0 = true) : h1 = true ∧ InvR t0 n0 s0 (tm + 1) 0 s1 t2 n2 s2 h0 h1 1 (tm + 1) false false (i + 1) := by
  obtain ⟨r0, r1, r2, rt, rp, P0, P1, H0, H1, N, S⟩ := J
  have hm := may_1 hm
  have hh : h1 = true := by
    cases e : h1 with
    | true => rfl
    | false =>
      have Q := H1 e
      have := P0 Q.1
      omega
  refine ⟨hh, ?_⟩
  refine ⟨?_, ?_, ?_, ?_, ?_, ?_, ?_, ?_, ?_, ?_, ?_⟩
  all_goals (first | omega | (intro hh; first | (have H0' := H0 hh; omega) | (have H1' := H1 hh; omega) | (have N' := N hh; omega) | (have S' := S hh; simp_all; done) | (simp at hh; done) | (exact S hh) | omega | (simp_all; done) | (simp_all; omega)))
theorem InvR.elect12 {t0 n0 s0 t1 n1 s1 t2 n2 s2 p tm : Int} {h0 h1 nt sm : Bool} {i : Nat} (J : InvR t0 n0 s0 t1 n1 s1 t2 n2 s2 h0 h1 p tm nt sm i) (hi : i < 200) (hm : mayR t1 n1 s1 1 t2 n2 s2 = true) : h1 = true ∧ InvR t0 n0 s0 (tm + 1) 0 s1 t2 n2 s2 h0 h1 1 (tm + 1) false false (i + 1) := by
  obtain ⟨r0, r1, r2, rt, rp, P0, P1, H0, H1, N, S⟩ := J
  have hm := may_1 hm
  have hh : h1 = true := by
    cases e : h1 with
    | true => rfl
    | false =>
      have Q := H1 e
      have := P0 Q.1
      omega
  refine ⟨hh, ?_⟩
  refine ⟨?_, ?_, ?_, ?_, ?_, ?_, ?_, ?_, ?_, ?_, ?_⟩
  all_goals (first | omega | (intro hh; first | (have H0' := H0 hh; omega) | (have H1' := H1 hh; omega) | (have N' := N hh; omega) | (have S' := S hh; simp_all; done) | (simp at hh; done) | (exact S hh) | omega | (simp_all; done) | (simp_all; omega)))
theorem InvR.note01 {t0 n0 s0 t1 n1 s1 t2 n2 s2 tm : Int} {h0 h1 nt sm : Bool} {i : Nat} (J : InvR t0 n0 s0 t1 n1 s1 t2 n2 s2 h0 h1 0 tm nt sm i) (hi : i < 200) : InvR t0 n0 s0 t0 n0 s0 t2 n2 s2 h0 h1 0 tm true sm (i + 1) := by
  obtain ⟨r0, r1, r2, rt, rp, P0, P1, H0, H1, N, S⟩ := J
  have Q := P0 rfl
  refine ⟨?_, ?_, ?_, ?_, ?_, ?_, ?_, ?_, ?_, ?_, ?_⟩
  all_goals (first | omega | (intro hh; first | (have H0' := H0 hh; omega) | (have H1' := H1 hh; omega) | (have N' := N hh; omega) | (have S' := S hh; simp_all; done) | (simp at hh; done) | (exact S hh) | omega | (simp_all; done) | (simp_all; omega)))
theorem InvR.same01 {t0 n0 s0 t1 n1 s1 t2 n2 s2 tm : Int} {h0 h1 nt sm : Bool} {i : Nat} (J : InvR t0 n0 s0 t1 n1 s1 t2 n2 s2 h0 h1 0 tm nt sm i) (hi : i < 200) {b : Bool} (hb : b = true → t1 = t0 ∧ n1 = n0 ∧ s1 = s0) : InvR t0 n0 s0 t1 n1 s1 t2 n2 s2 h0 h1 0 tm (nt || b) sm (i + 1) := by
  obtain ⟨r0, r1, r2, rt, rp, P0, P1, H0, H1, N, S⟩ := J
  refine ⟨?_, ?_, ?_, ?_, ?_, ?_, ?_, ?_, ?_, ?_, ?_⟩
  all_goals (first | omega | exact H0 | exact H1 | exact S | skip)
  intro hh
  rw [Bool.or_eq_true] at hh
  rcases hh with hh | hh
  · exact N hh
  · have := hb hh
    omega
theorem InvR.note02 {t0 n0 s0 t1 n1 s1 t2 n2 s2 tm : Int} {h0 h1 nt sm : Bool} {i : Nat} (J : InvR t0 n0 s0 t1 n1 s1 t2 n2 s2 h0 h1 0 tm nt sm i) (hi : i < 200) : InvR t0 n0 s0 t1 n1 s1 t0 n0 s0 h0 h1 0 tm true sm (i + 1) := by
  obtain ⟨r0, r1, r2, rt, rp, P0, P1, H0, H1, N, S⟩ := J
  have Q := P0 rfl
  refine ⟨?_, ?_, ?_, ?_, ?_, ?_, ?_, ?_, ?_, ?_, ?_⟩
  all_goals (first | omega | (intro hh; first | (have H0' := H0 hh; omega) | (have H1' := H1 hh; omega) | (have N' := N hh; omega) | (have S' := S hh; simp_all; done) | (simp at hh; done) | (exact S hh) | omega | (simp_all; done) | (simp_all; omega)))
theorem InvR.same02 {t0 n0 s0 t1 n1 s1 t2 n2 s2 tm : Int} {h0 h1 nt sm : Bool} {i : Nat} (J : InvR t0 n0 s0 t1 n1 s1 t2 n2 s2 h0 h1 0 tm nt sm i) (hi : i < 200) {b : Bool} (hb : b = true → t2 = t0 ∧ n2 = n0 ∧ s2 = s0) : InvR t0 n0 s0 t1 n1 s1 t2 n2 s2 h0 h1 0 tm (nt || b) sm (i + 1) := by
  obtain ⟨r0, r1, r2, rt, rp, P0, P1, H0, H1, N, S⟩ := J
  refine ⟨?_, ?_, ?_, ?_, ?_, ?_, ?_, ?_, ?_, ?_, ?_⟩
  all_goals (first | omega | exact H0 | exact H1 | exact S | skip)
  intro hh
  rw [Bool.or_eq_true] at hh
  rcases hh with hh | hh
  · exact N hh
  · have := hb hh
    omega
theorem InvR.alone0 {t0 n0 s0 t1 n1 s1 t2 n2 s2 tm : Int} {h0 h1 nt sm : Bool} {i : Nat} (J : InvR t0 n0 s0 t1 n1 s1 t2 n2 s2 h0 h1 0 tm nt sm i) (hi : i < 200) (hn : nt = true) (hs : s0 = 1) : InvR t0 n0 s0 t1 n1 s1 t2 n2 s2 h0 false 0 tm nt false (i + 1) := by
  obtain ⟨r0, r1, r2, rt, rp, P0, P1, H0, H1, N, S⟩ := J
  have Q := P0 rfl
  have Q2 := N hn
  refine ⟨?_, ?_, ?_, ?_, ?_, ?_, ?_, ?_, ?_, ?_, ?_⟩
  all_goals (first | omega | (intro hh; first | (have H0' := H0 hh; omega) | (have H1' := H1 hh; omega) | (have N' := N hh; omega) | (have S' := S hh; simp_all; done) | (simp at hh; done) | (exact S hh) | omega | (simp_all; done) | (simp_all; omega)))
theorem InvR.take0 {t0 n0 s0 t1 n1 s1 t2 n2 s2 tm : Int} {h0 h1 nt sm : Bool} {i : Nat} (J : InvR t0 n0 s0 t1 n1 s1 t2 n2 s2 h0 h1 0 tm nt sm i) (hi : i < 200) : h0 = true ∧ InvR t0 n0 s0 t1 n1 s1 t2 n2 s2 true true 0 tm nt true (i + 1) := by
  obtain ⟨r0, r1, r2, rt, rp, P0, P1, H0, H1, N, S⟩ := J
  have hh : h0 = true := by
    cases e : h0 with
    | true => rfl
    | false => have := H0 e; omega
  refine ⟨hh, ?_⟩
  refine ⟨?_, ?_, ?_, ?_, ?_, ?_, ?_, ?_, ?_, ?_, ?_⟩
  all_goals (first | omega | (intro hh; first | (have H0' := H0 hh; omega) | (have H1' := H1 hh; omega) | (have N' := N hh; omega) | (have S' := S hh; simp_all; done) | (simp at hh; done) | (exact S hh) | omega | (simp_all; done) | (simp_all; omega)))
theorem InvR.one0 {t0 n0 s0 t1 n1 s1 t2 n2 s2 tm : Int} {h0 h1 nt sm : Bool} {i : Nat} (J : InvR t0 n0 s0 t1 n1 s1 t2 n2 s2 h0 h1 0 tm nt sm i) (hi : i < 200) (hs : s0 = 3) : InvR t0 (n0 + 1) 1 t1 n1 s1 t2 n2 s2 h0 h1 0 tm false sm (i + 1) := by
  obtain ⟨r0, r1, r2, rt, rp, P0, P1, H0, H1, N, S⟩ := J
  have Q := P0 rfl
  refine ⟨?_, ?_, ?_, ?_, ?_, ?_, ?_, ?_, ?_, ?_, ?_⟩
  all_goals (first | omega | (intro hh; first | (have H0' := H0 hh; omega) | (have H1' := H1 hh; omega) | (have N' := N hh; omega) | (have S' := S hh; simp_all; done) | (simp at hh; done) | (exact S hh) | omega | (simp_all; done) | (simp_all; omega)))
theorem InvR.two0 {t0 n0 s0 t1 n1 s1 t2 n2 s2 tm : Int} {h0 h1 nt sm : Bool} {i : Nat} (J : InvR t0 n0 s0 t1 n1 s1 t2 n2 s2 h0 h1 0 tm nt sm i) (hi : i < 200) (hs : sm = true) : InvR t0 (n0 + 1) 3 t1 n1 s1 t2 n2 s2 h0 h1 0 tm false sm (i + 1) := by
  obtain ⟨r0, r1, r2, rt, rp, P0, P1, H0, H1, N, S⟩ := J
  have Q := P0 rfl
  have Q2 := S hs
  obtain ⟨rfl, rfl⟩ := Q2
  refine ⟨?_, ?_, ?_, ?_, ?_, ?_, ?_, ?_, ?_, ?_, ?_⟩
  all_goals (first | omega | (intro hh; first | (have H0' := H0 hh; omega) | (have H1' := H1 hh; omega) | (have N' := N hh; omega) | (have S' := S hh; simp_all; done) | (simp at hh; done) | (exact S hh) | omega | (simp_all; done) | (simp_all; omega)))
theorem InvR.note10 {t0 n0 s0 t1 n1 s1 t2 n2 s2 tm : Int} {h0 h1 nt sm : Bool} {i : Nat} (J : InvR t0 n0 s0 t1 n1 s1 t2 n2 s2 h0 h1 1 tm nt sm i) (hi : i < 200) : InvR t1 n1 s1 t1 n1 s1 t2 n2 s2 h0 h1 1 tm true sm (i + 1) := by
  obtain ⟨r0, r1, r2, rt, rp, P0, P1, H0, H1, N, S⟩ := J
  have Q := P1 rfl
  refine ⟨?_, ?_, ?_, ?_, ?_, ?_, ?_, ?_, ?_, ?_, ?_⟩
  all_goals (first | omega | (intro hh; first | (have H0' := H0 hh; omega) | (have H1' := H1 hh; omega) | (have N' := N hh; omega) | (have S' := S hh; simp_all; done) | (simp at hh; done) | (exact S hh) | omega | (simp_all; done) | (simp_all; omega)))
theorem InvR.same10 {t0 n0 s0 t1 n1 s1 t2 n2 s2 tm : Int} {h0 h1 nt sm : Bool} {i : Nat} (J : InvR t0 n0 s0 t1 n1 s1 t2 n2 s2 h0 h1 1 tm nt sm i) (hi : i < 200) {b : Bool} (hb : b = true → t0 = t1 ∧ n0 = n1 ∧ s0 = s1) : InvR t0 n0 s0 t1 n1 s1 t2 n2 s2 h0 h1 1 tm (nt || b) sm (i + 1) := by
  obtain ⟨r0, r1, r2, rt, rp, P0, P1, H0, H1, N, S⟩ := J
  refine ⟨?_, ?_, ?_, ?_, ?_, ?_, ?_, ?_, ?_, ?_, ?_⟩
  all_goals (first | omega | exact H0 | exact H1 | exact S | skip)
  intro hh
  rw [Bool.or_eq_true] at hh
  rcases hh with hh | hh
  · exact N hh
  · have := hb hh
    omega
theorem InvR.note12 {t0 n0 s0 t1 n1 s1 t2 n2 s2 tm : Int} {h0 h1 nt sm : Bool} {i : Nat} (J : InvR t0 n0 s0 t1 n1 s1 t2 n2 s2 h0 h1 1 tm nt sm i) (hi : i < 200) : InvR t0 n0 s0 t1 n1 s1 t1 n1 s1 h0 h1 1 tm true sm (i + 1) := by
  obtain ⟨r0, r1, r2, rt, rp, P0, P1, H0, H1, N, S⟩ := J
  have Q := P1 rfl
  refine ⟨?_, ?_, ?_, ?_, ?_, ?_, ?_, ?_, ?_, ?_, ?_⟩
  all_goals (first | omega | (intro hh; first | (have H0' := H0 hh; omega) | (have H1' := H1 hh; omega) | (have N' := N hh; omega) | (have S' := S hh; simp_all; done) | (simp at hh; done) | (exact S hh) | omega | (simp_all; done) | (simp_all; omega)))
theorem InvR.same12 {t0 n0 s0 t1 n1 s1 t2 n2 s2 tm : Int} {h0 h1 nt sm : Bool} {i : Nat} (J : InvR t0 n0 s0 t1 n1 s1 t2 n2 s2 h0 h1 1 tm nt sm i) (hi : i < 200) {b : Bool} (hb : b = true → t2 = t1 ∧ n2 = n1 ∧ s2 = s1) : InvR t0 n0 s0 t1 n1 s1 t2 n2 s2 h0 h1 1 tm (nt || b) sm (i + 1) := by
  obtain ⟨r0, r1, r2, rt, rp, P0, P1, H0, H1, N, S⟩ := J
  refine ⟨?_, ?_, ?_, ?_, ?_, ?_, ?_, ?_, ?_, ?_, ?_⟩
  all_goals (first | omega | exact H0 | exact H1 | exact S | skip)
  intro hh
  rw [Bool.or_eq_true] at hh
  rcases hh with hh | hh
  · exact N hh
  · have := hb hh
    omega
theorem InvR.alone1 {t0 n0 s0 t1 n1 s1 t2 n2 s2 tm : Int} {h0 h1 nt sm : Bool} {i : Nat} (J : InvR t0 n0 s0 t1 n1 s1 t2 n2 s2 h0 h1 1 tm nt sm i) (hi : i < 200) (hn : nt = true) (hs : s1 = 2) : InvR t0 n0 s0 t1 n1 s1 t2 n2 s2 false h1 1 tm nt false (i + 1) := by
  obtain ⟨r0, r1, r2, rt, rp, P0, P1, H0, H1, N, S⟩ := J
  have Q := P1 rfl
  have Q2 := N hn
  refine ⟨?_, ?_, ?_, ?_, ?_, ?_, ?_, ?_, ?_, ?_, ?_⟩
  all_goals (first | omega | (intro hh; first | (have H0' := H0 hh; omega) | (have H1' := H1 hh; omega) | (have N' := N hh; omega) | (have S' := S hh; simp_all; done) | (simp at hh; done) | (exact S hh) | omega | (simp_all; done) | (simp_all; omega)))
theorem InvR.take1 {t0 n0 s0 t1 n1 s1 t2 n2 s2 tm : Int} {h0 h1 nt sm : Bool} {i : Nat} (J : InvR t0 n0 s0 t1 n1 s1 t2 n2 s2 h0 h1 1 tm nt sm i) (hi : i < 200) : h1 = true ∧ InvR t0 n0 s0 t1 n1 s1 t2 n2 s2 true true 1 tm nt true (i + 1) := by
  obtain ⟨r0, r1, r2, rt, rp, P0, P1, H0, H1, N, S⟩ := J
  have hh : h1 = true := by
    cases e : h1 with
    | true => rfl
    | false => have := H1 e; omega
  refine ⟨hh, ?_⟩
  refine ⟨?_, ?_, ?_, ?_, ?_, ?_, ?_, ?_, ?_, ?_, ?_⟩
  all_goals (first | omega | (intro hh; first | (have H0' := H0 hh; omega) | (have H1' := H1 hh; omega) | (have N' := N hh; omega) | (have S' := S hh; simp_all; done) | (simp at hh; done) | (exact S hh) | omega | (simp_all; done) | (simp_all; omega)))
theorem InvR.one1 {t0 n0 s0 t1 n1 s1 t2 n2 s2 tm : Int} {h0 h1 nt sm : Bool} {i : Nat} (J : InvR t0 n0 s0 t1 n1 s1 t2 n2 s2 h0 h1 1 tm nt sm i) (hi : i < 200) (hs : s1 = 3) : InvR t0 n0 s0 t1 (n1 + 1) 2 t2 n2 s2 h0 h1 1 tm false sm (i + 1) := by
  obtain ⟨r0, r1, r2, rt, rp, P0, P1, H0, H1, N, S⟩ := J
  have Q := P1 rfl
  refine ⟨?_, ?_, ?_, ?_, ?_, ?_, ?_, ?_, ?_, ?_, ?_⟩
  all_goals (first | omega | (intro hh; first | (have H0' := H0 hh; omega) | (have H1' := H1 hh; omega) | (have N' := N hh; omega) | (have S' := S hh; simp_all; done) | (simp at hh; done) | (exact S hh) | omega | (simp_all; done) | (simp_all; omega)))
theorem InvR.two1 {t0 n0 s0 t1 n1 s1 t2 n2 s2 tm : Int} {h0 h1 nt sm : Bool} {i : Nat} (J : InvR t0 n0 s0 t1 n1 s1 t2 n2 s2 h0 h1 1 tm nt sm i) (hi : i < 200) (hs : sm = true) : InvR t0 n0 s0 t1 (n1 + 1) 3 t2 n2 s2 h0 h1 1 tm false sm (i + 1) := by
  obtain ⟨r0, r1, r2, rt, rp, P0, P1, H0, H1, N, S⟩ := J
  have Q := P1 rfl
  have Q2 := S hs
  obtain ⟨rfl, rfl⟩ := Q2
  refine ⟨?_, ?_, ?_, ?_, ?_, ?_, ?_, ?_, ?_, ?_, ?_⟩
  all_goals (first | omega | (intro hh; first | (have H0' := H0 hh; omega) | (have H1' := H1 hh; omega) | (have N' := N hh; omega) | (have S' := S hh; simp_all; done) | (simp at hh; done) | (exact S hh) | omega | (simp_all; done) | (simp_all; omega)))
end Go.Eng.SeatA

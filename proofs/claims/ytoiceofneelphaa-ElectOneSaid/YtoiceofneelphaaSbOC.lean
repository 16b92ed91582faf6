/- Layer 19: ElectOne, a round. -/
import Derived.Test.YtoiceofneelphaaSbOB
set_option linter.unusedSimpArgs false
set_option linter.unusedVariables false
set_option maxHeartbeats 40000000
namespace Go.Eng.SeatB
open Go.Proofs
/-- What is true of the votes, and of the newest lease. -/
structure NE (nl : Bool) (now : Int) (first : AVal) (v nw M : Int) (i : Nat) : Prop where
  v0 : 0 ≤ v ∧ v ≤ i
  vf : 0 < v ↔ first ≠ .nilp
  m : -1 ≤ M
  nw : nl = true → inL now = true → nw = M ∧ M ≤ now
/-- What a round makes of them. -/
def nextV (node term stamp : Int) (m : Msg) (v : Int) : Int := if (good node 2 m && hit term stamp m) = true then v + 1 else v
def nextN (node term now : Int) (m : Msg) (nw : Int) : Int := if (good node 4 m && hitH term m && decide (m.stamp ≤ now)) = true then mx nw m.stamp else nw
theorem NE.next {nl : Bool} {now node term stamp : Int} {first first' : AVal} {v nw M M' : Int} {i : Nat} {m : Msg} (h : NE nl now first v nw M i) (hl : nl = true → laterm node term now m = false) (ht : inL term = true)
    (hf : first' = .nilp ↔ first = .nilp ∧ (good node 2 m && hit term stamp m) = false) (hM : M' = if (gH node m && hitH term m) = true then mx M m.stamp else M) :
    NE nl now first' (nextV node term stamp m v) (nextN node term now m nw) M' (i + 1) := by
  obtain ⟨v0, vf, hm, hn⟩ := h
  refine ⟨?_, ?_, ?_, fun h1 h2 => ?_⟩
  · unfold nextV; split <;> omega
  · unfold nextV
    cases hg : good node 2 m && hit term stamp m with
    | true =>
      rw [if_pos rfl]
      constructor
      · intro _ e; rw [hf, hg] at e; simp at e
      · intro _; omega
    | false =>
      rw [if_neg (by simp), vf]
      rw [hg] at hf
      simp only [and_true] at hf
      exact ⟨fun h e => h (hf.1 e), fun h e => h (hf.2 e)⟩
  · rw [hM]; split
    · unfold mx; split <;> omega
    · exact hm
  · obtain ⟨e1, e2⟩ := hn h1 h2
    have hl := hl h1
    rw [hM]
    unfold nextN
    cases hh : hitH term m with
    | false => simpa using ⟨e1, e2⟩
    | true =>
      have hok : m.ok = true := by simp only [hitH, Bool.and_eq_true] at hh; exact hh.1
      have htm : m.term = term := by simp only [hitH, Bool.and_eq_true, decide_eq_true_eq] at hh; exact hh.2
      cases hg : good node 4 m with
      | false => simp [gH, hg]; exact ⟨e1, e2⟩
      | true =>
        obtain ⟨k1, k2, k3⟩ := good_eq hg
        have hle : m.stamp ≤ now := by
          have : laterm node term now m = false := hl
          simp only [laterm, hok, k1, k2, htm, decide_true, Bool.true_and, decide_eq_false_iff_not] at this
          omega
        rw [if_pos (by simp [hle])]
        simp only [inL, Bool.and_eq_true, decide_eq_true_eq] at h2
        cases hs : inL m.stamp with
        | true =>
          rw [if_pos (by simp [gH, hg, hs])]
          rw [e1]
          refine ⟨rfl, ?_⟩
          unfold mx; split <;> omega
        | false =>
          rw [if_neg (by simp [gH, hg, hs, hok])]
          simp only [inL, Bool.and_eq_false_iff, decide_eq_false_iff_not] at hs
          have : m.stamp < 0 := by omega
          refine ⟨?_, e2⟩
          unfold mx; rw [if_neg (by omega)]; exact e1
abbrev tmE (node term stamp : Int) (b o n : Nat) (c : Option Nat) (now : Int) (qr qh : Nat) (v nw k : Int) (i : Nat) : Tm := [(0, .int .i64 node), (1, .int .i64 term), (2, .int .i64 stamp), (3, .sl b o n c), (4, .int .i64 now), (11, .bool true), (12, .ptr qr 0), (14, .ptr qh 0), (16, .int .i64 v), (17, .int .i64 nw), (18, .int .i64 k), (19, .int .i64 i)]
theorem won_first {H : AHeap} {b o n : Nat} {f : Nat → Msg} {qr qh : Nat} {node term stamp : Int} {first s0 s1 s2 : AVal} {t0 t1 t2 : Int} (J : JE H b o n f qr qh node term stamp first s0 s1 s2 t0 t1 t2) {v : Int} (hv : 0 < v ↔ first ≠ .nilp) : ∃ x, denF Φ5 none2 c21 [.ptr qr 0] H = some (.tup [.int .i64 x, .bool (decide (0 < v))], H) := by
  rcases J.F with rfl | ⟨w, fr, rfl, h2, h3, h4, h5⟩
  · have : ¬ 0 < v := by rw [hv]; simp
    exact ⟨0, by rw [decide_eq_false this]; exact won21_no J.R J.hr⟩
  · have : 0 < v := by rw [hv]; simp
    exact ⟨fr, by rw [decide_eq_true this]; exact won21_yes J.R J.hr h5⟩
theorem stepE {H : AHeap} {b o n i : Nat} {c : Option Nat} {f : Nat → Msg} {qr qh : Nat} {node term stamp now : Int} {first s0 s1 s2 : AVal} {t0 t1 t2 : Int} {v nw k : Int} {nl : Bool} {r : Nat} (J : JE H b o n f qr qh node term stamp first s0 s1 s2 t0 t1 t2) (hi : i < n) (hn : n ≤ 60) (hr : r ≤ 1000) (ht : inL term = true)
    (N : NE nl now first v nw (max3 t0 t1 t2) r) (hl : nl = true → laterm node term now (f i) = false) :
    ∃ H' first' s0' s1' s2' t0' t1' t2', JE H' b o n f qr qh node term stamp first' s0' s1' s2' t0' t1' t2' ∧ NE nl now first' (nextV node term stamp (f i) v) (nextN node term now (f i) nw) (max3 t0' t1' t2') (r + 1) ∧
      aden Φ11 b8_0 ⟨tmE node term stamp b o n c now qr qh v nw k i, H, []⟩ = some (.normal, ⟨tmE node term stamp b o n c now qr qh (nextV node term stamp (f i) v) (nextN node term now (f i) nw) k (i + 1), H', []⟩) := by
  have J0 : JE (pm H (f i)) b o n f qr qh node term stamp first s0 s1 s2 t0 t1 t2 := J.keep (by rw [pm_n]; omega) fun z hz => pm_lt hz
  obtain ⟨x1, y1, H1, first', e1, n1, g1, J1, hf⟩ := J0.hearR (f i)
  obtain ⟨x2, y2, H2, s0', s1', s2', t0', t1', t2', e2, n2, g2, J2, hM⟩ := J1.hearH (f i)
  have N2 := N.next hl ht hf hM
  refine ⟨H2, first', s0', s1', s2', t0', t1', t2', J2, N2, ?_⟩
  obtain ⟨x3, e3⟩ := won_first J2 N2.vf
  have hbn := J.hb
  have hrn := J.hr
  have hhn := J.hh
  have nr : H.n ≠ qr := by omega
  have nh : H.n ≠ qh := by omega
  have p0 : (pm H (f i)).n = H.n + 1 := pm_n _ _
  have m1 : H1.get H.n = .cells (f i).cs 39 12 .fixed := (g1 _ (by omega) nr).trans (pm_self H (f i))
  have m2 : H2.get H.n = .cells (f i).cs 39 12 .fixed := (g2 _ (by omega) nh).trans m1
  have m0 := pm_self H (f i)
  obtain ⟨L, e, es, md, hg, hL, hfx⟩ := J.ms
  have hx := hfx i hi
  have hle : o + i * 12 + 12 ≤ L.length := by omega
  have hw : IntKind.i64.wrap ((i : Int) + 1) = ((i : Int) + 1) := by rw [IntKind.wrap_i64]; omega
  have hv1 : IntKind.i64.wrap (v + 1) = v + 1 := by rw [IntKind.wrap_i64]; have := N.v0; omega
  have h1 : (i : Int) < (n : Int) := by omega
  unfold pm at e1 m0
  unfold Msg.cs at e1 e2 m0 m1 m2 hx
  unfold b8_0 tmE
  by_cases c1 : (f i).ok = true
  case neg =>
    have w1 : nextV node term stamp (f i) v = v := by simp [nextV, hit, c1]
    have w2 : nextN node term now (f i) nw = nw := by simp [nextN, hitH, c1]
    rw [w1, w2]
    have c1' : (f i).ok = false := by simpa using c1
    rw [c1'] at e1 e2 m0 m1 m2 hx
    simp (maxSteps := 10000000) +contextual [go_sem, hg, hi, h1, hx, hle, hw, p11_19, p11_29, p11_21, e1, e2, m0, m1, m2, c1']
  rw [c1] at e1 e2 m0 m1 m2 hx
  by_cases c2 : (f i).fr < 0
  · have hF : fromL node (f i).fr = false := by simp [fromL]; omega
    have w1 : nextV node term stamp (f i) v = v := by simp [nextV, good, hF]
    have w2 : nextN node term now (f i) nw = nw := by simp [nextN, good, hF]
    rw [w1, w2]
    simp (maxSteps := 10000000) +contextual [go_sem, hg, hi, h1, hx, hle, hw, p11_19, p11_29, p11_21, e1, e2, m0, m1, m2, c1, c2]
  by_cases c3 : 2 < (f i).fr
  · have hF : fromL node (f i).fr = false := by simp [fromL]; omega
    have w1 : nextV node term stamp (f i) v = v := by simp [nextV, good, hF]
    have w2 : nextN node term now (f i) nw = nw := by simp [nextN, good, hF]
    rw [w1, w2]
    simp (maxSteps := 10000000) +contextual [go_sem, hg, hi, h1, hx, hle, hw, p11_19, p11_29, p11_21, e1, e2, m0, m1, m2, c1, c2, c3]
  by_cases c4 : (f i).fr = node
  · have hF : fromL node (f i).fr = false := by simp [fromL, c4]
    have w1 : nextV node term stamp (f i) v = v := by simp [nextV, good, hF]
    have w2 : nextN node term now (f i) nw = nw := by simp [nextN, good, hF]
    rw [w1, w2]
    have c2' : ¬ node < 0 := by omega
    have c3' : ¬ 2 < node := by omega
    rw [c4] at e1 e2 m0 m1 m2 hx
    simp (maxSteps := 10000000) +contextual [go_sem, hg, hi, h1, hx, hle, hw, p11_19, p11_29, p11_21, e1, e2, m0, m1, m2, c1, c2', c3']
  by_cases c5 : (f i).term = term
  case neg =>
    have w1 : nextV node term stamp (f i) v = v := by simp [nextV, hit, c5]
    have w2 : nextN node term now (f i) nw = nw := by simp [nextN, hitH, c5]
    rw [w1, w2]
    simp (maxSteps := 10000000) +contextual [go_sem, hg, hi, h1, hx, hle, hw, p11_19, p11_29, p11_21, e1, e2, m0, m1, m2, c1, c2, c3, c4, c5]
  have hF : fromL node (f i).fr = true := by simp [fromL, c4]; omega
  have ht' : inL (f i).term = true := by rw [c5]; exact ht
  rw [c5] at e1 e2 m0 m1 m2 hx
  by_cases c6 : (f i).kind = 2
  · have w2 : nextN node term now (f i) nw = nw := by simp [nextN, good, c6]
    rw [w2]
    rw [c6] at e1 e2 m0 m1 m2 hx
    by_cases c7 : (f i).stamp = stamp
    · have w1 : nextV node term stamp (f i) v = v + 1 := by simp [nextV, good, hit, c1, c5, c6, c7, hF, ht, ht']
      rw [w1] at e3 ⊢
      rw [c7] at e1 e2 m0 m1 m2 hx
      simp (maxSteps := 10000000) +contextual [go_sem, hg, hi, h1, hx, hle, hw, hv1, p11_19, p11_29, p11_21, e1, e2, e3, m0, m1, m2, c1, c2, c3, c4, c5, c6, c7]
    · have w1 : nextV node term stamp (f i) v = v := by simp [nextV, hit, c7]
      rw [w1] at e3 ⊢
      simp (maxSteps := 10000000) +contextual [go_sem, hg, hi, h1, hx, hle, hw, hv1, p11_19, p11_29, p11_21, e1, e2, e3, m0, m1, m2, c1, c2, c3, c4, c5, c6, c7]
  · have w1 : nextV node term stamp (f i) v = v := by simp [nextV, good, c6]
    rw [w1] at e3 ⊢
    by_cases c7 : (f i).kind = 4
    · rw [c7] at e1 e2 m0 m1 m2 hx
      by_cases c8 : (f i).stamp ≤ now
      · have w2 : nextN node term now (f i) nw = mx nw (f i).stamp := by simp [nextN, good, hitH, c1, c5, c7, c8, hF, ht, ht']
        rw [w2]
        unfold mx
        simp (maxSteps := 10000000) +contextual [go_sem, hg, hi, h1, hx, hle, hw, hv1, p11_19, p11_29, p11_21, e1, e2, e3, m0, m1, m2, c1, c2, c3, c4, c5, c6, c7, c8]
      · have w2 : nextN node term now (f i) nw = nw := by simp [nextN, c8]
        rw [w2]
        simp (maxSteps := 10000000) +contextual [go_sem, hg, hi, h1, hx, hle, hw, hv1, p11_19, p11_29, p11_21, e1, e2, e3, m0, m1, m2, c1, c2, c3, c4, c5, c6, c7, c8]
    · have w2 : nextN node term now (f i) nw = nw := by simp [nextN, good, c7]
      rw [w2]
      simp (maxSteps := 10000000) +contextual [go_sem, hg, hi, h1, hx, hle, hw, hv1, p11_19, p11_29, p11_21, e1, e2, e3, m0, m1, m2, c1, c2, c3, c4, c5, c6, c7]
end Go.Eng.SeatB

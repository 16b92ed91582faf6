/- Layer 19: what holds hear, and are given. -/
import Derived.Test.YtoiceofneelphaaSbS
set_option linter.unusedSimpArgs false
set_option linter.unusedVariables false
set_option maxHeartbeats 40000000
namespace Go.Eng.SeatB
open Go.Proofs
theorem give30_bad {H : AHeap} {qa : Nat} {node term who st : Int} {s0 s1 s2 : AVal} (hA : H.get qa = .cells [.bool true, .int .i64 node, .int .i64 term, s0, s1, s2] 52 6 .fixed) (h : (fromL node who && inL st) = false) :
    denF Φ7 none2 c30 [.ptr qa 0, .int .i64 who, .int .i64 st] H = some (.int .i64 2, H) := by
  unfold c30
  cases h1 : fromL node who <;> cases h2 : inL st <;> simp [h1, h2] at h
  all_goals simp (maxSteps := 10000000) +contextual [go_sem, hA, p7_75, p7_72, rFrom, rIn, h1, h2]
theorem give30_ok {H H1 : AHeap} {qa : Nat} {node term who st : Int} {s0 s1 s2 : AVal} (hA : H.get qa = .cells [.bool true, .int .i64 node, .int .i64 term, s0, s1, s2] 52 6 .fixed) (h1 : fromL node who = true) (h2 : inL st = true) (e : denF Φ5 none2 c81 [.ptr qa 0, .int .i64 who, .int .i64 st] H = some (.tup [], H1)) :
    denF Φ7 none2 c30 [.ptr qa 0, .int .i64 who, .int .i64 st] H = some (.int .i64 0, H1) := by
  unfold c30
  simp (maxSteps := 10000000) +contextual [go_sem, hA, p7_75, p7_72, p7_81, rFrom, rIn, h1, h2, e]
theorem give35_bad {H : AHeap} {qa : Nat} {node term who st t0 t1 t2 : Int} (hA : H.get qa = .cells [.int .i64 node, .int .i64 term, .int .i64 t0, .int .i64 t1, .int .i64 t2] 134 5 .fixed) (h : (fromL node who && inL st) = false) :
    denF Φ5 none2 c35 [.ptr qa 0, .int .i64 who, .int .i64 st] H = some (.int .i64 2, H) := by
  unfold c35
  by_cases a : who < 0
  · simp (maxSteps := 10000000) +contextual [go_sem, hA, p5_74, rIn, a]
  by_cases b : 2 < who
  · simp (maxSteps := 10000000) +contextual [go_sem, hA, p5_74, rIn, a, b]
  by_cases c : who = node
  · subst c
    simp (maxSteps := 10000000) +contextual [go_sem, hA, p5_74, rIn, a, b]
  have hf : fromL node who = true := by simp only [fromL, Bool.and_eq_true, decide_eq_true_eq, Bool.not_eq_true', decide_eq_false_iff_not]; omega
  rw [hf] at h
  have hs : inL st = false := by simpa using h
  simp (maxSteps := 10000000) +contextual [go_sem, hA, p5_74, rIn, a, b, c, hs]
def gH (node : Int) (m : Msg) : Bool := good node 4 m && (!m.ok || inL m.stamp)
def hitH (term : Int) (m : Msg) : Bool := m.ok && decide (m.term = term)
theorem hear29_bad {H : AHeap} {qa : Nat} {node term : Int} {s0 s1 s2 : AVal} (hA : H.get qa = .cells [.bool true, .int .i64 node, .int .i64 term, s0, s1, s2] 52 6 .fixed) (hq : qa < H.n) (m : Msg) (hg : gH node m = false) :
    denF Φ7 none2 c29 [.ptr qa 0, .agg m.cs] H = some (.tup [.int .i64 0, .int .i64 2], H.push (.cells m.cs 39 12 .fixed)) := by
  have h1 : ¬ qa = H.n := by omega
  have h2 : ¬ H.n = qa := by omega
  have h5 : qa < H.n + 1 := by omega
  unfold c29 Msg.cs
  by_cases e1 : m.kind = 4
  · cases e2 : fromL node m.fr with
    | false => simp (maxSteps := 10000000) +contextual [go_sem, hA, hq, h1, h2, h5, p7_75, p7_72, p7_76, rFrom, rIn, rAbove, e1, e2]
    | true =>
      cases e3 : inL m.term with
      | false => simp (maxSteps := 10000000) +contextual [go_sem, hA, hq, h1, h2, h5, p7_75, p7_72, p7_76, rFrom, rIn, rAbove, e1, e2, e3]
      | true =>
        have e4 : m.ok = true ∧ inL m.stamp = false := by simpa [gH, good, e1, e2, e3] using hg
        simp (maxSteps := 10000000) +contextual [go_sem, hA, hq, h1, h2, h5, p7_75, p7_72, p7_76, rFrom, rIn, rAbove, e1, e2, e3, e4.1, e4.2]
  · simp (maxSteps := 10000000) +contextual [go_sem, hA, hq, h1, h2, h5, p7_75, p7_72, p7_76, rFrom, rIn, rAbove, e1]
theorem gH_eq {node : Int} {m : Msg} (hg : gH node m = true) : m.kind = 4 ∧ fromL node m.fr = true ∧ inL m.term = true ∧ (m.ok = true → inL m.stamp = true) := by
  simp only [gH, Bool.and_eq_true, Bool.or_eq_true, Bool.not_eq_true'] at hg
  obtain ⟨a, b, c⟩ := good_eq hg.1
  refine ⟨a, b, c, fun h => ?_⟩
  rcases hg.2 with h' | h'
  · rw [h] at h'; simp at h'
  · exact h'
theorem hear29_miss {H : AHeap} {qa : Nat} {node term : Int} {s0 s1 s2 : AVal} (hA : H.get qa = .cells [.bool true, .int .i64 node, .int .i64 term, s0, s1, s2] 52 6 .fixed) (hq : qa < H.n) (m : Msg) (hg : gH node m = true) (hh : hitH term m = false) :
    denF Φ7 none2 c29 [.ptr qa 0, .agg m.cs] H = some (.tup [.int .i64 (aboveL m.term term), .int .i64 0], H.push (.cells m.cs 39 12 .fixed)) := by
  have h1 : ¬ qa = H.n := by omega
  have h2 : ¬ H.n = qa := by omega
  have h5 : qa < H.n + 1 := by omega
  obtain ⟨e1, e2, e3, e4⟩ := gH_eq hg
  unfold c29 Msg.cs
  cases e5 : m.ok with
  | false => simp (maxSteps := 10000000) +contextual [go_sem, hA, hq, h1, h2, h5, p7_75, p7_72, p7_76, rFrom, rIn, rAbove, e1, e2, e3, e5]
  | true =>
    have e6 : ¬ m.term = term := by simpa [hitH, e5] using hh
    simp (maxSteps := 10000000) +contextual [go_sem, hA, hq, h1, h2, h5, p7_75, p7_72, p7_76, rFrom, rIn, rAbove, e1, e2, e3, e4 e5, e5, e6]
theorem hear29_hit {H H1 : AHeap} {qa : Nat} {node term : Int} {s0 s1 s2 : AVal} (hA : H.get qa = .cells [.bool true, .int .i64 node, .int .i64 term, s0, s1, s2] 52 6 .fixed) (hq : qa < H.n) (m : Msg) (hg : gH node m = true) (hh : hitH term m = true)
    (e : denF Φ5 none2 c81 [.ptr qa 0, .int .i64 m.fr, .int .i64 m.stamp] (H.push (.cells m.cs 39 12 .fixed)) = some (.tup [], H1)) (hm : H1.get H.n = .cells m.cs 39 12 .fixed) (s0' s1' s2' : AVal) (hA1 : H1.get qa = .cells [.bool true, .int .i64 node, .int .i64 term, s0', s1', s2'] 52 6 .fixed) (hn : H.n + 1 ≤ H1.n) :
    denF Φ7 none2 c29 [.ptr qa 0, .agg m.cs] H = some (.tup [.int .i64 (aboveL m.term term), .int .i64 0], H1) := by
  have h1 : ¬ qa = H.n := by omega
  have h2 : ¬ H.n = qa := by omega
  have h5 : qa < H.n + 1 := by omega
  have h6 : qa < H1.n := by omega
  have h7 : H.n < H1.n := by omega
  obtain ⟨e1, e2, e3, e4⟩ := gH_eq hg
  simp only [hitH, Bool.and_eq_true, decide_eq_true_eq] at hh
  obtain ⟨e5, e6⟩ := hh
  have e7 : inL term = true := by rw [← e6]; exact e3
  unfold Msg.cs at e hm
  unfold c29 Msg.cs
  rw [e5] at e hm
  rw [e1] at e hm
  rw [e6] at e hm
  simp (maxSteps := 10000000) +contextual [go_sem, hA, hq, h1, h2, h5, p7_75, p7_72, p7_76, p7_81, rFrom, rIn, rAbove, e1, e2, e3, e4 e5, e5, e6, e7, e, hm, hA1, h6, h7]
theorem hear36_bad {H : AHeap} {qa : Nat} {node term t0 t1 t2 : Int} (hA : H.get qa = .cells [.int .i64 node, .int .i64 term, .int .i64 t0, .int .i64 t1, .int .i64 t2] 134 5 .fixed) (hq : qa < H.n) (m : Msg) (hg : gH node m = false) :
    denF Φ7 none2 c36 [.ptr qa 0, .agg m.cs] H = some (.tup [.int .i64 0, .int .i64 2], H.push (.cells m.cs 39 12 .fixed)) := by
  have h1 : ¬ qa = H.n := by omega
  have h2 : ¬ H.n = qa := by omega
  have h5 : qa < H.n + 1 := by omega
  unfold c36 Msg.cs
  cases e1 : decide (m.kind = 4) && fromL node m.fr && inL m.term with
  | false => simp (maxSteps := 10000000) +contextual [go_sem, hA, hq, h1, h2, h5, p7_77, p7_74, p7_78, rRight, rIn, rAbove, e1]
  | true =>
    have e4 : m.ok = true ∧ inL m.stamp = false := by simpa [gH, good, e1] using hg
    simp (maxSteps := 10000000) +contextual [go_sem, hA, hq, h1, h2, h5, p7_77, p7_74, p7_78, rRight, rIn, rAbove, e1, e4.1, e4.2]
theorem hear36_miss {H : AHeap} {qa : Nat} {node term t0 t1 t2 : Int} (hA : H.get qa = .cells [.int .i64 node, .int .i64 term, .int .i64 t0, .int .i64 t1, .int .i64 t2] 134 5 .fixed) (hq : qa < H.n) (m : Msg) (hg : gH node m = true) (hh : hitH term m = false) :
    denF Φ7 none2 c36 [.ptr qa 0, .agg m.cs] H = some (.tup [.int .i64 (aboveL m.term term), .int .i64 0], H.push (.cells m.cs 39 12 .fixed)) := by
  have h1 : ¬ qa = H.n := by omega
  have h2 : ¬ H.n = qa := by omega
  have h5 : qa < H.n + 1 := by omega
  obtain ⟨e1, e2, e3, e4⟩ := gH_eq hg
  unfold c36 Msg.cs
  cases e5 : m.ok with
  | false => simp (maxSteps := 10000000) +contextual [go_sem, hA, hq, h1, h2, h5, p7_77, p7_74, p7_78, rRight, rIn, rAbove, e1, e2, e3, e5]
  | true =>
    have e6 : ¬ m.term = term := by simpa [hitH, e5] using hh
    simp (maxSteps := 10000000) +contextual [go_sem, hA, hq, h1, h2, h5, p7_77, p7_74, p7_78, rRight, rIn, rAbove, e1, e2, e3, e4 e5, e5, e6]
theorem p7_35' (l : List AVal) (H : AHeap) : Φ7 35 l H = denF Φ5 none2 c35 l H := (rfl)
theorem hear36_hit {H H1 : AHeap} {qa : Nat} {node term t0 t1 t2 v0 v1 v2 : Int} (hA : H.get qa = .cells [.int .i64 node, .int .i64 term, .int .i64 t0, .int .i64 t1, .int .i64 t2] 134 5 .fixed) (hq : qa < H.n) (m : Msg) (hg : gH node m = true) (hh : hitH term m = true)
    (e : denF Φ5 none2 c35 [.ptr qa 0, .int .i64 m.fr, .int .i64 m.stamp] (H.push (.cells m.cs 39 12 .fixed)) = some (.int .i64 0, H1)) (hm : H1.get H.n = .cells m.cs 39 12 .fixed) (hA1 : H1.get qa = .cells [.int .i64 node, .int .i64 term, .int .i64 v0, .int .i64 v1, .int .i64 v2] 134 5 .fixed) (hn : H.n + 1 ≤ H1.n) :
    denF Φ7 none2 c36 [.ptr qa 0, .agg m.cs] H = some (.tup [.int .i64 (aboveL m.term term), .int .i64 0], H1) := by
  have h1 : ¬ qa = H.n := by omega
  have h2 : ¬ H.n = qa := by omega
  have h5 : qa < H.n + 1 := by omega
  have h6 : qa < H1.n := by omega
  have h7 : H.n < H1.n := by omega
  obtain ⟨e1, e2, e3, e4⟩ := gH_eq hg
  simp only [hitH, Bool.and_eq_true, decide_eq_true_eq] at hh
  obtain ⟨e5, e6⟩ := hh
  have e7 : inL term = true := by rw [← e6]; exact e3
  unfold Msg.cs at e hm
  unfold c36 Msg.cs
  rw [e5] at e hm
  rw [e1] at e hm
  rw [e6] at e hm
  simp (maxSteps := 10000000) +contextual [go_sem, hA, hq, h1, h2, h5, p7_77, p7_74, p7_78, rRight, rIn, rAbove, p7_35, e1, e2, e3, e4 e5, e5, e6, e7, e, hm, hA1, h6, h7]
/-- Both hear a message. -/
theorem JH.hear {H : AHeap} {qa qb : Nat} {node term : Int} {s0 s1 s2 : AVal} {t0 t1 t2 : Int} (J : JH H qa qb node term s0 s1 s2 t0 t1 t2 t0 t1 t2) (m : Msg) :
    ∃ x y H1 H2 s0' s1' s2' t0' t1' t2', denF Φ7 none2 c29 [.ptr qa 0, .agg m.cs] H = some (.tup [.int .i64 x, .int .i64 y], H1) ∧ Keep H H1 qa qb ∧ denF Φ7 none2 c36 [.ptr qb 0, .agg m.cs] H1 = some (.tup [.int .i64 x, .int .i64 y], H2) ∧ Keep H1 H2 qa qb ∧ JH H2 qa qb node term s0' s1' s2' t0' t1' t2' t0' t1' t2' := by
  have J1 := J.push (.cells m.cs 39 12 .fixed)
  have J2 := J1.push (.cells m.cs 39 12 .fixed)
  have k1 := Keep.push H (.cells m.cs 39 12 .fixed) qa qb
  have k2 := Keep.push (H.push (.cells m.cs 39 12 .fixed)) (.cells m.cs 39 12 .fixed) qa qb
  cases hg : gH node m with
  | false => exact ⟨_, _, _, _, _, _, _, _, _, _, hear29_bad J.A J.ha m hg, k1, hear36_bad J1.B J1.hq m hg, k2, J2⟩
  | true =>
    cases hh : hitH term m with
    | false => exact ⟨_, _, _, _, _, _, _, _, _, _, hear29_miss J.A J.ha m hg hh, k1, hear36_miss J1.B J1.hq m hg hh, k2, J2⟩
    | true =>
      have e5 : m.ok = true := by simp only [hitH, Bool.and_eq_true] at hh; exact hh.1
      obtain ⟨_, e2, _, e4⟩ := gH_eq hg
      obtain ⟨H1, H2, a, b, c, u, v, w, e1, g1, J3, e3, g2, J4⟩ := J1.give e2 (e4 e5) (fun G => G.push (.cells m.cs 39 12 .fixed)) (fun G _ _ _ _ _ _ _ _ _ j => j.push _)
      have ha := J.ha
      have hq := J.hq
      have n1 : H.n + 1 ≤ H1.n := by have := g1.1; simpa using this
      have n2 : H1.n + 1 ≤ H2.n := by have := g2.1; simpa using this
      have hm : H1.get H.n = .cells m.cs 39 12 .fixed := by
        rw [g1.2 _ (by simp) (by omega) (by omega), AHeap.get_push, if_pos rfl]
      have hm2 : H2.get H1.n = .cells m.cs 39 12 .fixed := by
        rw [g2.2 _ (by simp) (by omega) (by omega), AHeap.get_push, if_pos rfl]
      exact ⟨_, _, H1, H2, a, b, c, u, v, w, hear29_hit J.A J.ha m hg hh e1 hm a b c J3.A n1, k1.trans g1, hear36_hit J3.B J3.hq m hg hh e3 hm2 J4.B n2, (Keep.push H1 _ qa qb).trans g2, J4⟩
/-- Both are given a lease. -/
theorem JH.gives {H : AHeap} {qa qb : Nat} {node term : Int} {s0 s1 s2 : AVal} {t0 t1 t2 : Int} (J : JH H qa qb node term s0 s1 s2 t0 t1 t2 t0 t1 t2) (who st : Int) :
    ∃ y H1 H2 s0' s1' s2' t0' t1' t2', denF Φ7 none2 c30 [.ptr qa 0, .int .i64 who, .int .i64 st] H = some (.int .i64 y, H1) ∧ Keep H H1 qa qb ∧ denF Φ5 none2 c35 [.ptr qb 0, .int .i64 who, .int .i64 st] H1 = some (.int .i64 y, H2) ∧ Keep H1 H2 qa qb ∧ JH H2 qa qb node term s0' s1' s2' t0' t1' t2' t0' t1' t2' := by
  cases h : fromL node who && inL st with
  | false => exact ⟨2, H, H, s0, s1, s2, t0, t1, t2, give30_bad J.A h, ⟨Nat.le_refl _, fun _ _ _ _ => rfl⟩, give35_bad J.B h, ⟨Nat.le_refl _, fun _ _ _ _ => rfl⟩, J⟩
  | true =>
    simp only [Bool.and_eq_true] at h
    obtain ⟨H1, H2, a, b, c, u, v, w, e1, g1, J3, e3, g2, J4⟩ := J.give h.1 h.2 (fun G => G) (fun G _ _ _ _ _ _ _ _ _ j => j)
    exact ⟨0, H1, H2, a, b, c, u, v, w, give30_ok J.A h.1 h.2 e1, g1, e3, g2, J4⟩
theorem valid31 {H : AHeap} {qa qb : Nat} {node term : Int} {s0 s1 s2 : AVal} {t0 t1 t2 : Int} (J : JH H qa qb node term s0 s1 s2 t0 t1 t2 t0 t1 t2) (now : Int) :
    denF Φ7 none2 c31 [.ptr qa 0, .int .i64 now] H = some (.bool (decide (0 < left3 t0 t1 t2 now)), H) := by
  unfold c31
  simp (maxSteps := 10000000) +contextual [go_sem, p7_32, left32 J now]
theorem valid37 {H : AHeap} {qa qb : Nat} {node term : Int} {s0 s1 s2 : AVal} {t0 t1 t2 : Int} (J : JH H qa qb node term s0 s1 s2 t0 t1 t2 t0 t1 t2) (now : Int) :
    denF Φ7 none2 c37 [.ptr qb 0, .int .i64 now] H = some (.bool (decide (0 < left3 t0 t1 t2 now)), H) := by
  unfold c37
  simp (maxSteps := 10000000) +contextual [go_sem, p7_38, left38 J now]
theorem begin33_no {H : AHeap} {node term : Int} (h : mayN node term = false) :
    denF Φ7 none2 c33 [.int .i64 node, .int .i64 term] H = some (.tup [.nilp, .int .i64 2], H) := by
  unfold c33
  simp (maxSteps := 10000000) +contextual [go_sem, p7_71, rMay, h]
theorem begin33_yes {H : AHeap} {node term : Int} (h : mayN node term = true) :
    denF Φ7 none2 c33 [.int .i64 node, .int .i64 term] H = some (.tup [.ptr H.n 0, .int .i64 0], H.push (.cells [.bool true, .int .i64 node, .int .i64 term, .nilp, .nilp, .nilp] 52 6 .fixed)) := by
  unfold c33
  simp (maxSteps := 10000000) +contextual [go_sem, p7_71, rMay, h]
theorem begin34_no {H : AHeap} {node term : Int} (h : mayN node term = false) :
    denF Φ7 none2 c34 [.int .i64 node, .int .i64 term] H = some (.tup [.nilp, .int .i64 2], H) := by
  unfold c34
  by_cases a : node < 0
  · simp (maxSteps := 10000000) +contextual [go_sem, p7_73, rIn, a]
  by_cases b : 1 < node
  · simp (maxSteps := 10000000) +contextual [go_sem, p7_73, rIn, a, b]
  have hn : node = 0 ∨ node = 1 := by omega
  have h1 : inL term = false := by rcases hn with rfl | rfl <;> simpa [mayN] using h
  simp (maxSteps := 10000000) +contextual [go_sem, p7_73, rIn, a, b, h1]
theorem begin34_yes {H : AHeap} {node term : Int} (h : mayN node term = true) :
    denF Φ7 none2 c34 [.int .i64 node, .int .i64 term] H = some (.tup [.ptr H.n 0, .int .i64 0], H.push (.cells [.int .i64 node, .int .i64 term, .int .i64 (-1), .int .i64 (-1), .int .i64 (-1)] 134 5 .fixed)) := by
  simp only [Bool.and_eq_true, mayN, Bool.or_eq_true, decide_eq_true_eq] at h
  have a : ¬ node < 0 := by omega
  have b : ¬ 1 < node := by omega
  unfold c34
  simp (maxSteps := 10000000) +contextual [go_sem, p7_73, rIn, a, b, h.2]
def Φ8 : Phi := updP (updP (updP (updP (updP (updP (updP (Φ7) 29 (denF Φ7 none2 c29)) 30 (denF Φ7 none2 c30)) 31 (denF Φ7 none2 c31)) 33 (denF Φ7 none2 c33)) 34 (denF Φ7 none2 c34)) 36 (denF Φ7 none2 c36)) 37 (denF Φ7 none2 c37)
theorem ok8 : ∀ f, Sound Try.prog f (Φ8 f) := updP_ok (updP_ok (updP_ok (updP_ok (updP_ok (updP_ok (updP_ok (ok7) (fun_sound ok7 none_soundD mixed Try.func29 cal29 comp29)) (fun_sound ok7 none_soundD mixed Try.func30 cal30 comp30)) (fun_sound ok7 none_soundD mixed Try.func31 cal31 comp31)) (fun_sound ok7 none_soundD mixed Try.func33 cal33 comp33)) (fun_sound ok7 none_soundD mixed Try.func34 cal34 comp34)) (fun_sound ok7 none_soundD mixed Try.func36 cal36 comp36)) (fun_sound ok7 none_soundD mixed Try.func37 cal37 comp37)
theorem p8_29 (l : List AVal) (H : AHeap) : Φ8 29 l H = denF Φ7 none2 c29 l H := (rfl)
theorem p8_30 (l : List AVal) (H : AHeap) : Φ8 30 l H = denF Φ7 none2 c30 l H := (rfl)
theorem p8_31 (l : List AVal) (H : AHeap) : Φ8 31 l H = denF Φ7 none2 c31 l H := (rfl)
theorem p8_33 (l : List AVal) (H : AHeap) : Φ8 33 l H = denF Φ7 none2 c33 l H := (rfl)
theorem p8_34 (l : List AVal) (H : AHeap) : Φ8 34 l H = denF Φ7 none2 c34 l H := (rfl)
theorem p8_36 (l : List AVal) (H : AHeap) : Φ8 36 l H = denF Φ7 none2 c36 l H := (rfl)
theorem p8_37 (l : List AVal) (H : AHeap) : Φ8 37 l H = denF Φ7 none2 c37 l H := (rfl)
theorem p8_32 (l : List AVal) (H : AHeap) : Φ8 32 l H = denF Φ5 none2 c32 l H := (rfl)
theorem p8_38 (l : List AVal) (H : AHeap) : Φ8 38 l H = denF Φ5 none2 c38 l H := (rfl)
theorem p8_35 (l : List AVal) (H : AHeap) : Φ8 35 l H = denF Φ5 none2 c35 l H := (rfl)
theorem p8_16 (l : List AVal) (H : AHeap) : Φ8 16 l H = pspec rTrue16 l H := (rfl)
end Go.Eng.SeatB

/- Layer 16: LeaseOne, the plain law. -/
import Derived.Test.YtakblaaipaehjaaSaQ
set_option linter.unusedSimpArgs false
set_option linter.unusedVariables false
set_option maxHeartbeats 4000000
namespace Go.Eng.SeatA
structure Ent where
  node : Int
  to : Int
  stamp : Int
  given : Bool
def sel (x0 x1 x2 k : Int) : Int := if k = 0 then x0 else if k = 1 then x1 else x2
theorem sel0 (x0 x1 x2 : Int) : sel x0 x1 x2 0 = x0 := rfl
theorem sel1 (x0 x1 x2 : Int) : sel x0 x1 x2 1 = x1 := rfl
theorem sel2 (x0 x1 x2 : Int) : sel x0 x1 x2 2 = x2 := rfl
/-- Clocks and promises that may be. -/
structure Base (a0 a1 a2 T0 F0 T1 F1 T2 F2 : Int) (i : Nat) : Prop where
  hi : i ≤ 120
  hA0 : 0 ≤ a0 ∧ a0 ≤ 1073741824 + 110 * i
  hA1 : 0 ≤ a1 ∧ a1 ≤ 1073741824 + 110 * i
  hA2 : 0 ≤ a2 ∧ a2 ≤ 1073741824 + 110 * i
  hF0 : 0 ≤ F0 ∧ F0 ≤ a0
  hF1 : 0 ≤ F1 ∧ F1 ≤ a1
  hF2 : 0 ≤ F2 ∧ F2 ≤ a2
  hT0 : -1 ≤ T0
  hT1 : -1 ≤ T1
  hT2 : -1 ≤ T2
/-- What is true of a lease that was asked for. -/
structure EntOK (a0 a1 a2 T0 F0 T1 F1 T2 F2 : Int) (e : Ent) : Prop where
  n : e.node = 0 ∨ e.node = 1
  t : e.to = 0 ∨ e.to = 1 ∨ e.to = 2
  nt : e.to ≠ e.node
  s : e.stamp = -1 ∨ (0 ≤ e.stamp ∧ e.stamp ≤ sel a0 a1 a2 e.node)
  own : 0 ≤ e.stamp → sel T0 T1 T2 e.node = e.node
  giv : e.given = true → 0 ≤ e.stamp → sel a0 a1 a2 e.node - e.stamp < 900 → sel T0 T1 T2 e.to = e.node ∧ 9 * (sel a0 a1 a2 e.to - sel F0 F1 F2 e.to) ≤ 11 * (sel a0 a1 a2 e.node - e.stamp)
theorem holds_lt {to fr now : Int} (h1 : 0 ≤ fr ∧ fr ≤ 1099511627776) (h2 : 0 ≤ now ∧ now ≤ 1099511627776) : holdsL to fr now = (!decide (to = -1) && decide (now - fr < 1100)) := by
  have e1 : mayL fr = true := by simp [mayL]; omega
  have e2 : mayL now = true := by simp [mayL]; omega
  simp [holdsL, e1, e2]
theorem bars_no {to fr node now : Int} (h1 : 0 ≤ fr ∧ fr ≤ 1099511627776) (h2 : 0 ≤ now ∧ now ≤ 1099511627776) (ht : -1 ≤ to) (h : barsL to fr node now = false) : to = -1 ∨ 1100 ≤ now - fr ∨ to = node := by
  rw [barsL, holds_lt h1 h2] at h
  simp only [Bool.and_eq_false_iff, Bool.not_eq_false', decide_eq_true_eq, decide_eq_false_iff_not, Bool.or_eq_false_iff, Bool.not_eq_false'] at h
  omega
theorem EntOK.tick {a0 a1 a2 T0 F0 T1 F1 T2 F2 : Int} {e : Ent} (h : EntOK a0 a1 a2 T0 F0 T1 F1 T2 F2 e) {b0 b1 b2 : Int} (h0 : 90 ≤ b0 ∧ b0 ≤ 110) (h1 : 90 ≤ b1 ∧ b1 ≤ 110) (h2 : 90 ≤ b2 ∧ b2 ≤ 110) : EntOK (a0 + b0) (a1 + b1) (a2 + b2) T0 F0 T1 F1 T2 F2 e := by
  obtain ⟨n, t, nt, s, own, giv⟩ := h
  refine ⟨n, t, nt, ?_, own, fun g st lt => ?_⟩
  · rcases n with n | n <;> rw [n] at s ⊢ <;> simp only [sel0, sel1] at s ⊢ <;> omega
  · rcases n with n | n <;> rcases t with t | t | t <;> rw [n] at giv lt ⊢ <;> rw [t] at giv ⊢ <;> simp only [sel0, sel1, sel2] at giv lt ⊢ <;> (first | (exact absurd (t.trans n.symm) nt) | (have := giv g st (by omega); omega))
theorem Base.tick {a0 a1 a2 T0 F0 T1 F1 T2 F2 : Int} {i : Nat} (h : Base a0 a1 a2 T0 F0 T1 F1 T2 F2 i) (hlt : i < 120) {b0 b1 b2 : Int} (h0 : 90 ≤ b0 ∧ b0 ≤ 110) (h1 : 90 ≤ b1 ∧ b1 ≤ 110) (h2 : 90 ≤ b2 ∧ b2 ≤ 110) : Base (a0 + b0) (a1 + b1) (a2 + b2) T0 F0 T1 F1 T2 F2 (i + 1) := by
  obtain ⟨hi, a, b, c, d, e, f, g, k, l⟩ := h
  exact ⟨by omega, by omega, by omega, by omega, by omega, by omega, by omega, g, k, l⟩
theorem Base.next {a0 a1 a2 T0 F0 T1 F1 T2 F2 : Int} {i : Nat} (h : Base a0 a1 a2 T0 F0 T1 F1 T2 F2 i) (hlt : i < 120) : Base a0 a1 a2 T0 F0 T1 F1 T2 F2 (i + 1) := by
  obtain ⟨hi, a, b, c, d, e, f, g, k, l⟩ := h
  exact ⟨by omega, by omega, by omega, by omega, by omega, by omega, by omega, g, k, l⟩
/-- One of three is set. -/
def up (k n x y : Int) : Int := if k = n then x else y
theorem EntOK.ask {a0 a1 a2 T0 F0 T1 F1 T2 F2 : Int} {i : Nat} {e : Ent} (B : Base a0 a1 a2 T0 F0 T1 F1 T2 F2 i) (h : EntOK a0 a1 a2 T0 F0 T1 F1 T2 F2 e) {n : Int} (hn : n = 0 ∨ n = 1) (hb : barsL (sel T0 T1 T2 n) (sel F0 F1 F2 n) n (sel a0 a1 a2 n) = false) :
    EntOK a0 a1 a2 (up 0 n n T0) (up 0 n a0 F0) (up 1 n n T1) (up 1 n a1 F1) (up 2 n n T2) (up 2 n a2 F2) e := by
  have hi := B.hi
  have B0 := B.hA0
  have B1 := B.hA1
  have B2 := B.hA2
  have C0 := B.hF0
  have C1 := B.hF1
  have C2 := B.hF2
  obtain ⟨en, et, nt, s, own, giv⟩ := h
  rcases hn with rfl | rfl
  · have hb := bars_no (by simp only [sel0]; omega) (by simp only [sel0]; omega) (by simp only [sel0]; exact B.hT0) hb
    simp only [sel0] at hb
    refine ⟨en, et, nt, s, fun st => ?_, fun g st lt => ?_⟩
    · have := own st
      rcases en with n | n <;> rw [n] at this ⊢ <;> simp only [sel0, sel1, up] at this ⊢ <;> simp_all
    · rcases en with n | n <;> rcases et with t | t | t <;> rw [n] at giv lt own ⊢ <;> rw [t] at giv ⊢ <;> simp only [sel0, sel1, sel2] at giv lt own ⊢ <;> (first | (exact absurd (t.trans n.symm) nt) | (have g1 := giv g st (by omega); have g2 := own st; simp [up]; omega))
  · have hb := bars_no (by simp only [sel1]; omega) (by simp only [sel1]; omega) (by simp only [sel1]; exact B.hT1) hb
    simp only [sel1] at hb
    refine ⟨en, et, nt, s, fun st => ?_, fun g st lt => ?_⟩
    · have := own st
      rcases en with n | n <;> rw [n] at this ⊢ <;> simp only [sel0, sel1, up] at this ⊢ <;> simp_all
    · rcases en with n | n <;> rcases et with t | t | t <;> rw [n] at giv lt own ⊢ <;> rw [t] at giv ⊢ <;> simp only [sel0, sel1, sel2] at giv lt own ⊢ <;> (first | (exact absurd (t.trans n.symm) nt) | (have g1 := giv g st (by omega); have g2 := own st; simp [up]; omega))
/-- The leases of who gives its own up. -/
def zap (to : Int) (e : Ent) : Ent := if e.node = to then { e with stamp := -1 } else e
theorem EntOK.give {a0 a1 a2 T0 F0 T1 F1 T2 F2 : Int} {i : Nat} {e : Ent} (B : Base a0 a1 a2 T0 F0 T1 F1 T2 F2 i) (h : EntOK a0 a1 a2 T0 F0 T1 F1 T2 F2 e) {to nd : Int} (ht : to = 0 ∨ to = 1 ∨ to = 2) (hn : nd = 0 ∨ nd = 1) (hne : to ≠ nd) (hb : barsL (sel T0 T1 T2 to) (sel F0 F1 F2 to) nd (sel a0 a1 a2 to) = false) :
    EntOK a0 a1 a2 (up 0 to nd T0) (up 0 to a0 F0) (up 1 to nd T1) (up 1 to a1 F1) (up 2 to nd T2) (up 2 to a2 F2) (zap to e) := by
  have hi := B.hi
  have B0 := B.hA0
  have B1 := B.hA1
  have B2 := B.hA2
  have C0 := B.hF0
  have C1 := B.hF1
  have C2 := B.hF2
  have hb := bars_no (by rcases ht with rfl | rfl | rfl <;> simp only [sel0, sel1, sel2] <;> omega) (by rcases ht with rfl | rfl | rfl <;> simp only [sel0, sel1, sel2] <;> omega) (by rcases ht with rfl | rfl | rfl <;> simp only [sel0, sel1, sel2]; exact B.hT0; exact B.hT1; exact B.hT2) hb
  obtain ⟨en, et, nt, s, own, giv⟩ := h
  unfold zap
  by_cases hz : e.node = to
  · rw [if_pos hz]
    exact ⟨en, et, nt, .inl rfl, fun h => by simp at h, fun _ h => by simp at h⟩
  · rw [if_neg hz]
    refine ⟨en, et, nt, s, fun st => ?_, fun g st lt => ?_⟩
    · have := own st
      rcases ht with rfl | rfl | rfl <;> rcases en with n | n <;> rw [n] at this hz ⊢ <;> simp only [sel0, sel1, up] at this ⊢ <;> simp_all
    · have := giv g st lt
      have := own st
      rcases ht with rfl | rfl | rfl <;> rcases en with n | n <;> rcases et with t | t | t <;> rw [n] at giv lt own hz ⊢ <;> rw [t] at giv ⊢ <;> simp only [sel0, sel1, sel2] at giv lt own hb ⊢ <;> (first | (exact absurd (t.trans n.symm) nt) | (exact absurd rfl hz) | (have g1 := giv g st (by omega); have g2 := own st; simp [up]; omega))
/-- The lease that is given. -/
theorem EntOK.given {a0 a1 a2 T0 F0 T1 F1 T2 F2 : Int} {i : Nat} {e : Ent} (B : Base a0 a1 a2 T0 F0 T1 F1 T2 F2 i) (h : EntOK a0 a1 a2 T0 F0 T1 F1 T2 F2 e) :
    EntOK a0 a1 a2 (up 0 e.to e.node T0) (up 0 e.to a0 F0) (up 1 e.to e.node T1) (up 1 e.to a1 F1) (up 2 e.to e.node T2) (up 2 e.to a2 F2) { e with given := true } := by
  have B0 := B.hA0
  obtain ⟨en, et, nt, s, own, giv⟩ := h
  refine ⟨en, et, nt, s, fun st => ?_, fun _ st lt => ?_⟩
  · have := own st
    simp only at st ⊢
    rcases en with n | n <;> rcases et with t | t | t <;> rw [n, t] <;> rw [n] at this <;> simp only [sel0, sel1, sel2] at this ⊢ <;> simp_all [up]
  · simp only at st lt ⊢
    rcases en with n | n <;> rcases et with t | t | t <;> rw [n, t] <;> rw [n] at s lt <;> simp only [sel0, sel1, sel2] at s lt ⊢ <;> (first | (exact absurd (t.trans n.symm) nt) | (simp [up]; omega))
theorem Base.ask {a0 a1 a2 T0 F0 T1 F1 T2 F2 : Int} {i : Nat} (B : Base a0 a1 a2 T0 F0 T1 F1 T2 F2 i) {to nd : Int} (hn : -1 ≤ nd) : Base a0 a1 a2 (up 0 to nd T0) (up 0 to a0 F0) (up 1 to nd T1) (up 1 to a1 F1) (up 2 to nd T2) (up 2 to a2 F2) i := by
  obtain ⟨hi, a, b, c, d, e, f, g, k, l⟩ := B
  refine ⟨hi, a, b, c, ?_, ?_, ?_, ?_, ?_, ?_⟩ <;> unfold up <;> split <;> omega
/-- What was just asked for. -/
theorem EntOK.new {a0 a1 a2 T0 F0 T1 F1 T2 F2 : Int} {i : Nat} (B : Base a0 a1 a2 T0 F0 T1 F1 T2 F2 i) {n to : Int} (hn : n = 0 ∨ n = 1) (ht : to = 0 ∨ to = 1 ∨ to = 2) (hne : to ≠ n) :
    EntOK a0 a1 a2 (up 0 n n T0) (up 0 n a0 F0) (up 1 n n T1) (up 1 n a1 F1) (up 2 n n T2) (up 2 n a2 F2) ⟨n, to, sel a0 a1 a2 n, false⟩ := by
  have B0 := B.hA0
  have B1 := B.hA1
  refine ⟨hn, ht, hne, .inr ?_, fun _ => ?_, fun h => by simp at h⟩
  · rcases hn with rfl | rfl <;> simp only [sel0, sel1] <;> omega
  · rcases hn with rfl | rfl <;> simp [sel0, sel1, up]
/-- No two have a valid lease of another one. -/
theorem no_two {a0 a1 a2 T0 F0 T1 F1 T2 F2 : Int} {e d : Ent} (he : EntOK a0 a1 a2 T0 F0 T1 F1 T2 F2 e) (hd : EntOK a0 a1 a2 T0 F0 T1 F1 T2 F2 d) (e0 : e.node = 0) (d1 : d.node = 1)
    (eg : e.given = true) (dg : d.given = true) (ev : validL e.stamp a0 = true) (dv : validL d.stamp a1 = true) : False := by
  simp only [validL, mayL, Bool.and_eq_true, decide_eq_true_eq] at ev dv
  have g1 := he.giv eg (by omega) (by rw [e0, sel0]; omega)
  have g2 := hd.giv dg (by omega) (by rw [d1, sel1]; omega)
  have o1 := he.own (by omega)
  have o2 := hd.own (by omega)
  have nt1 := he.nt
  have nt2 := hd.nt
  rw [e0] at g1 o1 nt1
  rw [d1] at g2 o2 nt2
  rcases he.t with t | t | t <;> rcases hd.t with u | u | u <;> rw [t] at g1 nt1 <;> rw [u] at g2 nt2 <;> simp only [sel0, sel1, sel2] at g1 g2 o1 o2 <;> omega
end Go.Eng.SeatA

/- Layer 19: ElectOne. -/
import Derived.Test.YtoiceofneelphaaSbX
import Derived.Test.YtoiceofneelphaaSbK
import Derived.Test.YtoiceofneelphaaSbT
set_option linter.unusedSimpArgs false
set_option linter.unusedVariables false
set_option maxHeartbeats 40000000
namespace Go.Eng.SeatB
open Go.Proofs
def Φ11 : Phi := updP (updP (updP (updP Φ10 7 (pspec rTrue7)) 15 (denF none2 none2 c15)) 17 (denF Φ5 none2 c17)) 41 (denF none2 none2 c41)
theorem ok11 : ∀ f, Sound Try.prog f (Φ11 f) := updP_ok (updP_ok (updP_ok (updP_ok ok10 s7) (fun_sound none_sound none_soundD mixed Try.func15 cal15 comp15)) (fun_sound ok5 none_soundD mixed Try.func17 cal17 comp17)) (fun_sound none_sound none_soundD mixed Try.func41 cal41 comp41)
theorem p11_7 (l : List AVal) (H : AHeap) : Φ11 7 l H = pspec rTrue7 l H := (rfl)
theorem p11_15 (l : List AVal) (H : AHeap) : Φ11 15 l H = denF none2 none2 c15 l H := (rfl)
theorem p11_17 (l : List AVal) (H : AHeap) : Φ11 17 l H = denF Φ5 none2 c17 l H := (rfl)
theorem p11_41 (l : List AVal) (H : AHeap) : Φ11 41 l H = denF none2 none2 c41 l H := (rfl)
theorem p11_19 (l : List AVal) (H : AHeap) : Φ11 19 l H = denF Φ4 none2 c19 l H := (rfl)
theorem p11_21 (l : List AVal) (H : AHeap) : Φ11 21 l H = denF Φ5 none2 c21 l H := (rfl)
theorem p11_29 (l : List AVal) (H : AHeap) : Φ11 29 l H = denF Φ7 none2 c29 l H := (rfl)
theorem p11_31 (l : List AVal) (H : AHeap) : Φ11 31 l H = denF Φ7 none2 c31 l H := (rfl)
theorem p11_33 (l : List AVal) (H : AHeap) : Φ11 33 l H = denF Φ7 none2 c33 l H := (rfl)
theorem p11_42 (l : List AVal) (H : AHeap) : Φ11 42 l H = pspec rValid l H := (rfl)
/-- A race and a hold, of the same term. -/
structure JE (H : AHeap) (b o n : Nat) (f : Nat → Msg) (qr qh : Nat) (node term stamp : Int) (first s0 s1 s2 : AVal) (t0 t1 t2 : Int) : Prop where
  ms : Msgs H b o n f
  hb : b < H.n
  hr : qr < H.n
  hh : qh < H.n
  br : b ≠ qr
  bh : b ≠ qh
  rh : qh ≠ qr
  R : H.get qr = .cells [.bool true, .int .i64 node, .int .i64 term, .int .i64 stamp, first] 48 5 .fixed
  F : first = .nilp ∨ ∃ w fr, first = .ptr w 0 ∧ w < H.n ∧ w ≠ qr ∧ w ≠ qh ∧ H.get w = .cells [.int .i64 fr] 3 1 .fixed
  A : H.get qh = .cells [.bool true, .int .i64 node, .int .i64 term, s0, s1, s2] 52 6 .fixed
  S0 : slotOK H qh qr s0 t0
  S1 : slotOK H qh qr s1 t1
  S2 : slotOK H qh qr s2 t2
theorem slot_keep {H H' : AHeap} {qa qb q : Nat} {s : AVal} {t : Int} (hn : H.n ≤ H'.n) (hq : q = qa ∨ q = qb) (e : ∀ z, z < H.n → z ≠ q → H'.get z = H.get z) (h : slotOK H qa qb s t) : slotOK H' qa qb s t := by
  rcases h with h | ⟨w, h1, h2, h3, h4, h5, h6⟩
  · exact .inl h
  · exact .inr ⟨w, h1, by omega, h3, h4, by rw [e w h2 (by rcases hq with rfl | rfl <;> assumption)]; exact h5, h6⟩
theorem JE.keep {H H' : AHeap} {b o n : Nat} {f : Nat → Msg} {qr qh : Nat} {node term stamp : Int} {first s0 s1 s2 : AVal} {t0 t1 t2 : Int} (J : JE H b o n f qr qh node term stamp first s0 s1 s2 t0 t1 t2) (hn : H.n ≤ H'.n) (e : ∀ z, z < H.n → H'.get z = H.get z) : JE H' b o n f qr qh node term stamp first s0 s1 s2 t0 t1 t2 := by
  obtain ⟨ms, hb, hr, hh, br, bh, rh, R, F, A, S0, S1, S2⟩ := J
  refine ⟨ms.mono (e b hb), by omega, by omega, by omega, br, bh, rh, (e _ hr).trans R, ?_, (e _ hh).trans A, slot_keep hn (.inl rfl) (fun z h _ => e z h) S0, slot_keep hn (.inl rfl) (fun z h _ => e z h) S1, slot_keep hn (.inl rfl) (fun z h _ => e z h) S2⟩
  rcases F with h | ⟨w, fr, h1, h2, h3, h4, h5⟩
  · exact .inl h
  · exact .inr ⟨w, fr, h1, by omega, h3, h4, (e w h2).trans h5⟩
theorem JE.push {H : AHeap} {b o n : Nat} {f : Nat → Msg} {qr qh : Nat} {node term stamp : Int} {first s0 s1 s2 : AVal} {t0 t1 t2 : Int} (J : JE H b o n f qr qh node term stamp first s0 s1 s2 t0 t1 t2) (x : ABlk) : JE (H.push x) b o n f qr qh node term stamp first s0 s1 s2 t0 t1 t2 :=
  J.keep (by simp) fun z hz => by rw [AHeap.get_push, if_neg (by omega)]
theorem JE.hearR {H : AHeap} {b o n : Nat} {f : Nat → Msg} {qr qh : Nat} {node term stamp : Int} {first s0 s1 s2 : AVal} {t0 t1 t2 : Int} (J : JE H b o n f qr qh node term stamp first s0 s1 s2 t0 t1 t2) (m : Msg) :
    ∃ x y H1 first', denF Φ4 none2 c19 [.ptr qr 0, .agg m.cs] H = some (.tup [.int .i64 x, .int .i64 y], H1) ∧ H.n ≤ H1.n ∧ (∀ z, z < H.n → z ≠ qr → H1.get z = H.get z) ∧ JE H1 b o n f qr qh node term stamp first' s0 s1 s2 t0 t1 t2 ∧ (first' = .nilp ↔ first = .nilp ∧ (good node 2 m && hit term stamp m) = false) := by
  have J1 := J.push (.cells m.cs 39 12 .fixed)
  have k1 : ∀ z, z < H.n → z ≠ qr → (H.push (.cells m.cs 39 12 .fixed)).get z = H.get z := fun z hz _ => by rw [AHeap.get_push, if_neg (by omega)]
  cases hg : good node 2 m with
  | false => exact ⟨_, _, _, first, hear19_bad J.R J.hr m hg, by simp, k1, J1, by simp⟩
  | true =>
    cases hh : hit term stamp m with
    | false => exact ⟨_, _, _, first, hear19_miss J.R J.hr m hg hh, by simp, k1, J1, by simp⟩
    | true =>
      rcases J.F with rfl | ⟨w, fr, rfl, h2, h3, h4, h5⟩
      · obtain ⟨H1, e1, e2, e3, e4, e5⟩ := hear19_first J.R J.hr m hg hh
        have hb := J.hb
        have hr := J.hr
        have hh' := J.hh
        refine ⟨_, _, H1, .ptr (H.n + 1) 0, e1, by omega, e3, ⟨J.ms.mono (e3 _ J.hb J.br), by omega, by omega, by omega, J.br, J.bh, J.rh, e4, .inr ⟨_, _, rfl, by omega, by omega, by omega, e5⟩, (e3 _ J.hh J.rh).trans J.A, slot_keep (by omega) (.inr rfl) e3 J.S0, slot_keep (by omega) (.inr rfl) e3 J.S1, slot_keep (by omega) (.inr rfl) e3 J.S2⟩, by simp⟩
      · exact ⟨_, _, _, .ptr w 0, hear19_late J.R J.hr m hg hh, by simp, k1, J1, by simp⟩
def max3 (t0 t1 t2 : Int) : Int := mx (mx t0 t1) t2
theorem JE.give0 {H : AHeap} {b o n : Nat} {f : Nat → Msg} {qr qh : Nat} {node term stamp : Int} {first s0 s1 s2 : AVal} {t0 t1 t2 : Int} (J : JE H b o n f qr qh node term stamp first s0 s1 s2 t0 t1 t2) {st : Int} (hs : inL st = true) :
    ∃ H1 s0' s1' s2', denF Φ5 none2 c81 [.ptr qh 0, .int .i64 0, .int .i64 st] H = some (.tup [], H1) ∧ H.n ≤ H1.n ∧ (∀ z, z < H.n → z ≠ qh → H1.get z = H.get z) ∧ JE H1 b o n f qr qh node term stamp first s0' s1' s2' (mx t0 st) t1 t2 := by
  have h0 : 0 ≤ st := by simp only [inL, Bool.and_eq_true, decide_eq_true_eq] at hs; exact hs.1
  have hb := J.hb
  have hr := J.hr
  have hh := J.hh
  have set : ∀ (e : mx t0 st = st) (hg : denF Φ5 none2 c81 [.ptr qh 0, .int .i64 0, .int .i64 st] H = some (.tup [], ((H.push (.cells [.int .i64 st] 3 1 .fixed)).set qh (.cells [.bool true, .int .i64 node, .int .i64 term, .ptr H.n 0, s1, s2] 52 6 .fixed)))), ∃ H1 s0' s1' s2', denF Φ5 none2 c81 [.ptr qh 0, .int .i64 0, .int .i64 st] H = some (.tup [], H1) ∧ H.n ≤ H1.n ∧ (∀ z, z < H.n → z ≠ qh → H1.get z = H.get z) ∧ JE H1 b o n f qr qh node term stamp first s0' s1' s2' (mx t0 st) t1 t2 := by
    intro e hg
    have k1 : ∀ z, z < H.n → z ≠ qh → ((H.push (.cells [.int .i64 st] 3 1 .fixed)).set qh (.cells [.bool true, .int .i64 node, .int .i64 term, .ptr H.n 0, s1, s2] 52 6 .fixed)).get z = H.get z := fun z hz hq => by rw [AHeap.get_set, if_neg hq, AHeap.get_push, if_neg (by omega)]
    have n1 : ¬ H.n = qh := by omega
    have n2 : ¬ H.n = qr := by omega
    refine ⟨_, .ptr H.n 0, s1, s2, hg, by simp, k1, J.ms.mono (k1 _ hb J.bh), by simp; omega, by simp; omega, by simp; omega, J.br, J.bh, J.rh, (k1 _ hr (Ne.symm J.rh)).trans J.R, ?_, by rw [AHeap.get_set, if_pos rfl], .inr ⟨H.n, rfl, by simp, n1, n2, by rw [e, AHeap.get_set, if_neg n1, AHeap.get_push, if_pos rfl], by omega⟩, slot_keep (by simp) (.inl rfl) k1 J.S1, slot_keep (by simp) (.inl rfl) k1 J.S2⟩
    rcases J.F with h | ⟨w, fr, h1, h2, h3, h4, h5⟩
    · exact .inl h
    · exact .inr ⟨w, fr, h1, by simp; omega, h3, h4, (k1 w h2 h4).trans h5⟩
  rcases J.S0 with ⟨rfl, rfl⟩ | ⟨w, rfl, hw, wa, wb, hW, ht⟩
  · exact set (by unfold mx; rw [if_pos (by omega)]) (give81_0n J.A J.hh)
  · by_cases hlt : t0 < st
    · exact set (by unfold mx; rw [if_pos hlt]) (give81_0l J.A J.hh hW hw hlt)
    · have e : mx t0 st = t0 := by unfold mx; rw [if_neg hlt]
      exact ⟨_, .ptr w 0, s1, s2, give81_0g J.A J.hh hW hw hlt, by simp, fun z hz _ => by rw [AHeap.get_push, if_neg (by omega)], by rw [e]; exact J.push _⟩
theorem JE.give1 {H : AHeap} {b o n : Nat} {f : Nat → Msg} {qr qh : Nat} {node term stamp : Int} {first s0 s1 s2 : AVal} {t0 t1 t2 : Int} (J : JE H b o n f qr qh node term stamp first s0 s1 s2 t0 t1 t2) {st : Int} (hs : inL st = true) :
    ∃ H1 s0' s1' s2', denF Φ5 none2 c81 [.ptr qh 0, .int .i64 1, .int .i64 st] H = some (.tup [], H1) ∧ H.n ≤ H1.n ∧ (∀ z, z < H.n → z ≠ qh → H1.get z = H.get z) ∧ JE H1 b o n f qr qh node term stamp first s0' s1' s2' t0 (mx t1 st) t2 := by
  have h0 : 0 ≤ st := by simp only [inL, Bool.and_eq_true, decide_eq_true_eq] at hs; exact hs.1
  have hb := J.hb
  have hr := J.hr
  have hh := J.hh
  have set : ∀ (e : mx t1 st = st) (hg : denF Φ5 none2 c81 [.ptr qh 0, .int .i64 1, .int .i64 st] H = some (.tup [], ((H.push (.cells [.int .i64 st] 3 1 .fixed)).set qh (.cells [.bool true, .int .i64 node, .int .i64 term, s0, .ptr H.n 0, s2] 52 6 .fixed)))), ∃ H1 s0' s1' s2', denF Φ5 none2 c81 [.ptr qh 0, .int .i64 1, .int .i64 st] H = some (.tup [], H1) ∧ H.n ≤ H1.n ∧ (∀ z, z < H.n → z ≠ qh → H1.get z = H.get z) ∧ JE H1 b o n f qr qh node term stamp first s0' s1' s2' t0 (mx t1 st) t2 := by
    intro e hg
    have k1 : ∀ z, z < H.n → z ≠ qh → ((H.push (.cells [.int .i64 st] 3 1 .fixed)).set qh (.cells [.bool true, .int .i64 node, .int .i64 term, s0, .ptr H.n 0, s2] 52 6 .fixed)).get z = H.get z := fun z hz hq => by rw [AHeap.get_set, if_neg hq, AHeap.get_push, if_neg (by omega)]
    have n1 : ¬ H.n = qh := by omega
    have n2 : ¬ H.n = qr := by omega
    refine ⟨_, s0, .ptr H.n 0, s2, hg, by simp, k1, J.ms.mono (k1 _ hb J.bh), by simp; omega, by simp; omega, by simp; omega, J.br, J.bh, J.rh, (k1 _ hr (Ne.symm J.rh)).trans J.R, ?_, by rw [AHeap.get_set, if_pos rfl], slot_keep (by simp) (.inl rfl) k1 J.S0, .inr ⟨H.n, rfl, by simp, n1, n2, by rw [e, AHeap.get_set, if_neg n1, AHeap.get_push, if_pos rfl], by omega⟩, slot_keep (by simp) (.inl rfl) k1 J.S2⟩
    rcases J.F with h | ⟨w, fr, h1, h2, h3, h4, h5⟩
    · exact .inl h
    · exact .inr ⟨w, fr, h1, by simp; omega, h3, h4, (k1 w h2 h4).trans h5⟩
  rcases J.S1 with ⟨rfl, rfl⟩ | ⟨w, rfl, hw, wa, wb, hW, ht⟩
  · exact set (by unfold mx; rw [if_pos (by omega)]) (give81_1n J.A J.hh)
  · by_cases hlt : t1 < st
    · exact set (by unfold mx; rw [if_pos hlt]) (give81_1l J.A J.hh hW hw hlt)
    · have e : mx t1 st = t1 := by unfold mx; rw [if_neg hlt]
      exact ⟨_, s0, .ptr w 0, s2, give81_1g J.A J.hh hW hw hlt, by simp, fun z hz _ => by rw [AHeap.get_push, if_neg (by omega)], by rw [e]; exact J.push _⟩
theorem JE.give2 {H : AHeap} {b o n : Nat} {f : Nat → Msg} {qr qh : Nat} {node term stamp : Int} {first s0 s1 s2 : AVal} {t0 t1 t2 : Int} (J : JE H b o n f qr qh node term stamp first s0 s1 s2 t0 t1 t2) {st : Int} (hs : inL st = true) :
    ∃ H1 s0' s1' s2', denF Φ5 none2 c81 [.ptr qh 0, .int .i64 2, .int .i64 st] H = some (.tup [], H1) ∧ H.n ≤ H1.n ∧ (∀ z, z < H.n → z ≠ qh → H1.get z = H.get z) ∧ JE H1 b o n f qr qh node term stamp first s0' s1' s2' t0 t1 (mx t2 st) := by
  have h0 : 0 ≤ st := by simp only [inL, Bool.and_eq_true, decide_eq_true_eq] at hs; exact hs.1
  have hb := J.hb
  have hr := J.hr
  have hh := J.hh
  have set : ∀ (e : mx t2 st = st) (hg : denF Φ5 none2 c81 [.ptr qh 0, .int .i64 2, .int .i64 st] H = some (.tup [], ((H.push (.cells [.int .i64 st] 3 1 .fixed)).set qh (.cells [.bool true, .int .i64 node, .int .i64 term, s0, s1, .ptr H.n 0] 52 6 .fixed)))), ∃ H1 s0' s1' s2', denF Φ5 none2 c81 [.ptr qh 0, .int .i64 2, .int .i64 st] H = some (.tup [], H1) ∧ H.n ≤ H1.n ∧ (∀ z, z < H.n → z ≠ qh → H1.get z = H.get z) ∧ JE H1 b o n f qr qh node term stamp first s0' s1' s2' t0 t1 (mx t2 st) := by
    intro e hg
    have k1 : ∀ z, z < H.n → z ≠ qh → ((H.push (.cells [.int .i64 st] 3 1 .fixed)).set qh (.cells [.bool true, .int .i64 node, .int .i64 term, s0, s1, .ptr H.n 0] 52 6 .fixed)).get z = H.get z := fun z hz hq => by rw [AHeap.get_set, if_neg hq, AHeap.get_push, if_neg (by omega)]
    have n1 : ¬ H.n = qh := by omega
    have n2 : ¬ H.n = qr := by omega
    refine ⟨_, s0, s1, .ptr H.n 0, hg, by simp, k1, J.ms.mono (k1 _ hb J.bh), by simp; omega, by simp; omega, by simp; omega, J.br, J.bh, J.rh, (k1 _ hr (Ne.symm J.rh)).trans J.R, ?_, by rw [AHeap.get_set, if_pos rfl], slot_keep (by simp) (.inl rfl) k1 J.S0, slot_keep (by simp) (.inl rfl) k1 J.S1, .inr ⟨H.n, rfl, by simp, n1, n2, by rw [e, AHeap.get_set, if_neg n1, AHeap.get_push, if_pos rfl], by omega⟩⟩
    rcases J.F with h | ⟨w, fr, h1, h2, h3, h4, h5⟩
    · exact .inl h
    · exact .inr ⟨w, fr, h1, by simp; omega, h3, h4, (k1 w h2 h4).trans h5⟩
  rcases J.S2 with ⟨rfl, rfl⟩ | ⟨w, rfl, hw, wa, wb, hW, ht⟩
  · exact set (by unfold mx; rw [if_pos (by omega)]) (give81_2n J.A J.hh)
  · by_cases hlt : t2 < st
    · exact set (by unfold mx; rw [if_pos hlt]) (give81_2l J.A J.hh hW hw hlt)
    · have e : mx t2 st = t2 := by unfold mx; rw [if_neg hlt]
      exact ⟨_, s0, s1, .ptr w 0, give81_2g J.A J.hh hW hw hlt, by simp, fun z hz _ => by rw [AHeap.get_push, if_neg (by omega)], by rw [e]; exact J.push _⟩
theorem max3_0 (t0 t1 t2 st : Int) : max3 (mx t0 st) t1 t2 = mx (max3 t0 t1 t2) st := by unfold max3 mx; repeat' split; all_goals omega
theorem max3_1 (t0 t1 t2 st : Int) : max3 t0 (mx t1 st) t2 = mx (max3 t0 t1 t2) st := by unfold max3 mx; repeat' split; all_goals omega
theorem max3_2 (t0 t1 t2 st : Int) : max3 t0 t1 (mx t2 st) = mx (max3 t0 t1 t2) st := by unfold max3 mx; repeat' split; all_goals omega
theorem JE.hearH {H : AHeap} {b o n : Nat} {f : Nat → Msg} {qr qh : Nat} {node term stamp : Int} {first s0 s1 s2 : AVal} {t0 t1 t2 : Int} (J : JE H b o n f qr qh node term stamp first s0 s1 s2 t0 t1 t2) (m : Msg) :
    ∃ x y H1 s0' s1' s2' t0' t1' t2', denF Φ7 none2 c29 [.ptr qh 0, .agg m.cs] H = some (.tup [.int .i64 x, .int .i64 y], H1) ∧ H.n ≤ H1.n ∧ (∀ z, z < H.n → z ≠ qh → H1.get z = H.get z) ∧ JE H1 b o n f qr qh node term stamp first s0' s1' s2' t0' t1' t2' ∧ max3 t0' t1' t2' = if (gH node m && hitH term m) = true then mx (max3 t0 t1 t2) m.stamp else max3 t0 t1 t2 := by
  have J1 := J.push (.cells m.cs 39 12 .fixed)
  have k1 : ∀ z, z < H.n → z ≠ qh → (H.push (.cells m.cs 39 12 .fixed)).get z = H.get z := fun z hz _ => by rw [AHeap.get_push, if_neg (by omega)]
  have hh' := J.hh
  cases hg : gH node m with
  | false => exact ⟨_, _, _, s0, s1, s2, t0, t1, t2, hear29_bad J.A J.hh m hg, by simp, k1, J1, by simp⟩
  | true =>
    cases hh : hitH term m with
    | false => exact ⟨_, _, _, s0, s1, s2, t0, t1, t2, hear29_miss J.A J.hh m hg hh, by simp, k1, J1, by simp⟩
    | true =>
      have e5 : m.ok = true := by simp only [hitH, Bool.and_eq_true] at hh; exact hh.1
      obtain ⟨_, e2, _, e4⟩ := gH_eq hg
      have hs := e4 e5
      have key : ∀ (H1 : AHeap) (s0' s1' s2' : AVal) (t0' t1' t2' : Int), denF Φ5 none2 c81 [.ptr qh 0, .int .i64 m.fr, .int .i64 m.stamp] (H.push (.cells m.cs 39 12 .fixed)) = some (.tup [], H1) → (H.push (.cells m.cs 39 12 .fixed)).n ≤ H1.n → (∀ z, z < (H.push (.cells m.cs 39 12 .fixed)).n → z ≠ qh → H1.get z = (H.push (.cells m.cs 39 12 .fixed)).get z) → JE H1 b o n f qr qh node term stamp first s0' s1' s2' t0' t1' t2' → max3 t0' t1' t2' = mx (max3 t0 t1 t2) m.stamp →
          ∃ x y H1 s0' s1' s2' t0' t1' t2', denF Φ7 none2 c29 [.ptr qh 0, .agg m.cs] H = some (.tup [.int .i64 x, .int .i64 y], H1) ∧ H.n ≤ H1.n ∧ (∀ z, z < H.n → z ≠ qh → H1.get z = H.get z) ∧ JE H1 b o n f qr qh node term stamp first s0' s1' s2' t0' t1' t2' ∧ max3 t0' t1' t2' = if (true && true) = true then mx (max3 t0 t1 t2) m.stamp else max3 t0 t1 t2 := by
        intro H1 s0' s1' s2' t0' t1' t2' e1 n1 g1 J3 em
        have n1' : H.n + 1 ≤ H1.n := by simpa using n1
        have hm : H1.get H.n = .cells m.cs 39 12 .fixed := by
          rw [g1 _ (by simp) (by omega), AHeap.get_push, if_pos rfl]
        exact ⟨_, _, H1, s0', s1', s2', t0', t1', t2', hear29_hit J.A J.hh m hg hh e1 hm s0' s1' s2' J3.A n1', by omega, fun z hz hq => (g1 z (by simp; omega) hq).trans (k1 z hz hq), J3, by simpa using em⟩
      simp only [fromL, Bool.and_eq_true, decide_eq_true_eq, Bool.not_eq_true', decide_eq_false_iff_not] at e2
      rcases (show m.fr = 0 ∨ m.fr = 1 ∨ m.fr = 2 by omega) with h | h | h
      · obtain ⟨H1, a, b', c, e1, g1, g2, J3⟩ := J1.give0 hs
        exact key H1 a b' c _ _ _ (by rw [h]; exact e1) g1 g2 J3 (max3_0 _ _ _ _)
      · obtain ⟨H1, a, b', c, e1, g1, g2, J3⟩ := J1.give1 hs
        exact key H1 a b' c _ _ _ (by rw [h]; exact e1) g1 g2 J3 (max3_1 _ _ _ _)
      · obtain ⟨H1, a, b', c, e1, g1, g2, J3⟩ := J1.give2 hs
        exact key H1 a b' c _ _ _ (by rw [h]; exact e1) g1 g2 J3 (max3_2 _ _ _ _)
theorem JE.valid {H : AHeap} {b o n : Nat} {f : Nat → Msg} {qr qh : Nat} {node term stamp : Int} {first s0 s1 s2 : AVal} {t0 t1 t2 : Int} (J : JE H b o n f qr qh node term stamp first s0 s1 s2 t0 t1 t2) (now : Int) :
    denF Φ7 none2 c31 [.ptr qh 0, .int .i64 now] H = some (.bool (decide (0 < left3 t0 t1 t2 now)), H) := by
  -- the document's hold may be any block that lies elsewhere: here one that the function does not look at
  have st0 : ∀ {acc : Int}, 0 ≤ acc → aden Φ5 b32_0 ⟨[(1, .int .i64 now), (5, .int .i64 acc), (12, .ptr qh 3), (13, .int .i64 0)], H, []⟩ = some (.normal, ⟨[(1, .int .i64 now), (5, .int .i64 (mx acc (leftL t0 now))), (12, .ptr qh 3), (13, .int .i64 1)], H, []⟩) := fun h => by
    rcases J.S0 with ⟨rfl, rfl⟩ | ⟨w, rfl, _, _, _, hW, _⟩
    · rw [left_neg, mx_zero h]; exact step32_0n J.A
    · exact step32_0p J.A hW
  have st1 : ∀ {acc : Int}, 0 ≤ acc → aden Φ5 b32_0 ⟨[(1, .int .i64 now), (5, .int .i64 acc), (12, .ptr qh 3), (13, .int .i64 1)], H, []⟩ = some (.normal, ⟨[(1, .int .i64 now), (5, .int .i64 (mx acc (leftL t1 now))), (12, .ptr qh 3), (13, .int .i64 2)], H, []⟩) := fun h => by
    rcases J.S1 with ⟨rfl, rfl⟩ | ⟨w, rfl, _, _, _, hW, _⟩
    · rw [left_neg, mx_zero h]; exact step32_1n J.A
    · exact step32_1p J.A hW
  have st2 : ∀ {acc : Int}, 0 ≤ acc → aden Φ5 b32_0 ⟨[(1, .int .i64 now), (5, .int .i64 acc), (12, .ptr qh 3), (13, .int .i64 2)], H, []⟩ = some (.normal, ⟨[(1, .int .i64 now), (5, .int .i64 (mx acc (leftL t2 now))), (12, .ptr qh 3), (13, .int .i64 3)], H, []⟩) := fun h => by
    rcases J.S2 with ⟨rfl, rfl⟩ | ⟨w, rfl, _, _, _, hW, _⟩
    · rw [left_neg, mx_zero h]; exact step32_2n J.A
    · exact step32_2p J.A hW
  have h : iter (aden Φ5 b32_0) (0 + 1 + 1 + 1 + 1) ⟨[(1, .int .i64 now), (5, .int .i64 0), (12, .ptr qh 3), (13, .int .i64 0)], H, []⟩ = some (.exit 0, ⟨[(1, .int .i64 now), (5, .int .i64 (left3 t0 t1 t2 now)), (12, .ptr qh 3), (13, .int .i64 3), (14, .bool false)], H, []⟩) := by
    rw [iter_succ, st0 (by omega), iterK_n, iter_succ, st1 (mx_nonneg _ (by omega)), iterK_n, iter_succ, st2 (mx_nonneg _ (mx_nonneg _ (by omega))), iterK_n, iter_succ]
    exact congrArg (fun x => iterK x _ _) last32
  have h := iter_mono h (show 0 + 1 + 1 + 1 + 1 ≤ fuel by unfold fuel; omega)
  have e : denF Φ5 none2 c32 [.ptr qh 0, .int .i64 now] H = some (.int .i64 (left3 t0 t1 t2 now), H) := by
    unfold c32
    simp (maxSteps := 10000000) +contextual [go_sem, h, J.A]
  unfold c31
  simp (maxSteps := 10000000) +contextual [go_sem, p7_32, e]
theorem mx_pos (a b : Int) : (0 < mx a b) ↔ (0 < a ∨ 0 < b) := by unfold mx; split <;> omega
/-- The longest lease is that of the newest one. -/
theorem left3_max {t0 t1 t2 now : Int} (hn : inL now = true) (h : max3 t0 t1 t2 ≤ now) : decide (0 < left3 t0 t1 t2 now) = validL (max3 t0 t1 t2) now := by
  have p : ∀ s, (0 < leftL s now) ↔ validL s now = true := fun s => by rw [← left_pos]; simp
  have e : (0 < left3 t0 t1 t2 now) ↔ (validL t0 now = true ∨ validL t1 now = true ∨ validL t2 now = true) := by
    unfold left3
    rw [mx_pos, mx_pos, mx_pos, p, p, p]
    constructor
    · rintro (((h | h) | h) | h)
      · omega
      · exact .inl h
      · exact .inr (.inl h)
      · exact .inr (.inr h)
    · rintro (h | h | h)
      · exact .inl (.inl (.inr h))
      · exact .inl (.inr h)
      · exact .inr h
  simp only [inL, Bool.and_eq_true, decide_eq_true_eq] at hn
  simp only [validL, inL, Bool.and_eq_true, decide_eq_true_eq] at e
  rw [Bool.eq_iff_iff, decide_eq_true_iff, e]
  simp only [validL, inL, Bool.and_eq_true, decide_eq_true_eq]
  unfold max3 mx at h ⊢
  repeat' split at h
  all_goals (repeat' split)
  all_goals omega
theorem left3_out {t0 t1 t2 now : Int} (hn : inL now = false) : left3 t0 t1 t2 now = 0 := by
  simp [left3, leftL, hn, mx]
theorem validL_out {s now : Int} (hn : inL now = false) : validL s now = false := by simp [validL, hn]
def laterm (node term now : Int) (m : Msg) : Bool := m.ok && decide (m.kind = 4) && fromL node m.fr && decide (m.term = term) && decide (now < m.stamp)
end Go.Eng.SeatB

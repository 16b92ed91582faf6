/- Layer 17: RecordSafe, its steps. -/
import Derived.Test.YtakblaaipaehjaaSaD2
set_option linter.unusedSimpArgs false
set_option linter.unusedVariables false
set_option maxHeartbeats 40000000
namespace Go.Eng.SeatA
open Go.Proofs
def Ψ7 : Phi := updP Ψ6 49 (denF Ψ6 none2 c49)
theorem oq7 : ∀ f, Sound Try.prog f (Ψ7 f) := updP_ok oq6 (fun_sound oq6 none_soundD mixed Try.func49 cal49 comp49)
theorem q7_49 (l : List AVal) (H : AHeap) : Ψ7 49 l H = denF Ψ6 none2 c49 l H := (rfl)
theorem q7_28 (l : List AVal) (H : AHeap) : Ψ7 28 l H = pspec r28 l H := (rfl)
theorem q7_32 (l : List AVal) (H : AHeap) : Ψ7 32 l H = pspec r32 l H := (rfl)
theorem q7_11 (l : List AVal) (H : AHeap) : Ψ7 11 l H = pspec r23 l H := (rfl)
theorem q7_38 (l : List AVal) (H : AHeap) : Ψ7 38 l H = pspec r38 l H := (rfl)
def wcs (t0 n0 s0 t1 n1 s1 t2 n2 s2 : Int) (h0 h1 : Bool) (p tm : Int) (nt sm : Bool) : List AVal := [.int .i64 t0, .int .i64 n0, .int .i64 s0, .int .i64 t1, .int .i64 n1, .int .i64 s1, .int .i64 t2, .int .i64 n2, .int .i64 s2, .bool h0, .bool h1, .int .i64 p, .int .i64 tm, .bool nt, .bool sm]
/-- A step is done: what the world has then, and that all else is as it was. -/
def DoneW (H : AHeap) (q : Nat) (kd nd vt : Int) (W : List AVal) : Prop := ∃ H', denF Ψ7 none2 c39 [.ptr q 0, .agg [.int .i64 kd, .int .i64 nd, .int .i64 vt]] H = some (.bool true, H') ∧ H.n ≤ H'.n ∧ (∀ z, z < H.n → z ≠ q → H'.get z = H.get z) ∧ H'.get q = .cells W 66 15 .fixed
abbrev kindR (kd : Int) : Int := (IntKind.i64.wrap (kd.tmod 6 + 6)).tmod 6
abbrev votR (vt : Int) : Int := (IntKind.i64.wrap (vt.tmod 3 + 3)).tmod 3
theorem w0_0_self {H : AHeap} {q : Nat} {kd nd vt : Int} {t0 n0 s0 t1 n1 s1 t2 n2 s2 tm : Int} {h0 h1 nt sm : Bool} (lq : q < H.n) {p : Int} (hW : H.get q = .cells (wcs t0 n0 s0 t1 n1 s1 t2 n2 s2 h0 h1 (p) tm nt sm) 66 15 .fixed) (hk : kindR kd = 0) (hn : nd % 2 = 0) (hv : votR vt = 0) :
    DoneW H q kd nd vt (wcs t0 n0 s0 t1 n1 s1 t2 n2 s2 h0 h1 p tm nt sm) := by
  have e1 : ¬ q = H.n := by omega
  have e2 : ¬ H.n = q := by omega
  have e3 : q < H.n + 1 := by omega
  have e4 : q < H.n + 1 + 1 := by omega
  have e5 : ¬ q = H.n + 1 := by omega
  have e6 : ¬ H.n + 1 = q := by omega
  have z1 : ∀ z, z < H.n → ¬ z = H.n := fun z h => by omega
  have z2 : ∀ z, z < H.n → ¬ z = H.n + 1 := fun z h => by omega
  have l1 : H.n ≤ H.n + 1 := by omega
  have l2 : H.n ≤ H.n + 1 + 1 := by omega
  have v0 : IntKind.i64.wrap 0 = 0 := by rw [IntKind.wrap_i64]; omega
  have v1 : IntKind.i64.wrap 1 = 1 := by rw [IntKind.wrap_i64]; omega
  have v2 : IntKind.i64.wrap 2 = 2 := by rw [IntKind.wrap_i64]; omega
  unfold DoneW
  unfold wcs at hW ⊢
  unfold c39
  simp (maxSteps := 10000000) +contextual [go_sem, hW, lq, e1, e2, e3, e4, e5, e6, z1, z2, l1, l2, v0, v1, v2, q7_28, q7_32, q7_49, q6_35, r28, r32, r35, hk, hn, hv]
theorem w0_01_no {H : AHeap} {q : Nat} {kd nd vt : Int} {t0 n0 s0 t1 n1 s1 t2 n2 s2 tm : Int} {h0 h1 nt sm : Bool} (lq : q < H.n) {p : Int} (hW : H.get q = .cells (wcs t0 n0 s0 t1 n1 s1 t2 n2 s2 h0 h1 (p) tm nt sm) 66 15 .fixed) (hk : kindR kd = 0) (hn : nd % 2 = 0) (hv : votR vt = 1) (hm : mayR t0 n0 s0 0 t1 n1 s1 = false) :
    DoneW H q kd nd vt (wcs t0 n0 s0 t1 n1 s1 t2 n2 s2 h0 h1 p tm nt sm) := by
  have e1 : ¬ q = H.n := by omega
  have e2 : ¬ H.n = q := by omega
  have e3 : q < H.n + 1 := by omega
  have e4 : q < H.n + 1 + 1 := by omega
  have e5 : ¬ q = H.n + 1 := by omega
  have e6 : ¬ H.n + 1 = q := by omega
  have z1 : ∀ z, z < H.n → ¬ z = H.n := fun z h => by omega
  have z2 : ∀ z, z < H.n → ¬ z = H.n + 1 := fun z h => by omega
  have l1 : H.n ≤ H.n + 1 := by omega
  have l2 : H.n ≤ H.n + 1 + 1 := by omega
  have v0 : IntKind.i64.wrap 0 = 0 := by rw [IntKind.wrap_i64]; omega
  have v1 : IntKind.i64.wrap 1 = 1 := by rw [IntKind.wrap_i64]; omega
  have v2 : IntKind.i64.wrap 2 = 2 := by rw [IntKind.wrap_i64]; omega
  unfold DoneW
  unfold wcs at hW ⊢
  unfold c39
  simp (maxSteps := 10000000) +contextual [go_sem, hW, lq, e1, e2, e3, e4, e5, e6, z1, z2, l1, l2, v0, v1, v2, q7_28, q7_32, q7_49, q6_35, r28, r32, r35, hk, hn, hv, hm]
theorem w0_01_yes {H : AHeap} {q : Nat} {kd nd vt : Int} {t0 n0 s0 t1 n1 s1 t2 n2 s2 tm : Int} {h0 h1 nt sm : Bool} (lq : q < H.n) {p : Int} (hW : H.get q = .cells (wcs t0 n0 s0 t1 n1 s1 t2 n2 s2 h0 h1 (p) tm nt sm) 66 15 .fixed) (hk : kindR kd = 0) (hn : nd % 2 = 0) (hv : votR vt = 1) (hm : mayR t0 n0 s0 0 t1 n1 s1 = true) (hh : h0 = true) (ht : IntKind.i64.wrap (tm + 1) = tm + 1) (hN : nextV t0 n0 s0 (tm + 1) s0 = (tm + 1, 0, s0, 0)) :
    DoneW H q kd nd vt (wcs (tm + 1) 0 s0 t1 n1 s1 t2 n2 s2 h0 h1 0 (tm + 1) false false) := by
  have e1 : ¬ q = H.n := by omega
  have e2 : ¬ H.n = q := by omega
  have e3 : q < H.n + 1 := by omega
  have e4 : q < H.n + 1 + 1 := by omega
  have e5 : ¬ q = H.n + 1 := by omega
  have e6 : ¬ H.n + 1 = q := by omega
  have z1 : ∀ z, z < H.n → ¬ z = H.n := fun z h => by omega
  have z2 : ∀ z, z < H.n → ¬ z = H.n + 1 := fun z h => by omega
  have l1 : H.n ≤ H.n + 1 := by omega
  have l2 : H.n ≤ H.n + 1 + 1 := by omega
  have v0 : IntKind.i64.wrap 0 = 0 := by rw [IntKind.wrap_i64]; omega
  have v1 : IntKind.i64.wrap 1 = 1 := by rw [IntKind.wrap_i64]; omega
  have v2 : IntKind.i64.wrap 2 = 2 := by rw [IntKind.wrap_i64]; omega
  unfold DoneW
  unfold wcs at hW ⊢
  unfold c39
  subst hh
  simp (maxSteps := 10000000) +contextual [go_sem, hW, lq, e1, e2, e3, e4, e5, e6, z1, z2, l1, l2, v0, v1, v2, q7_28, q7_32, q7_49, q6_35, r28, r32, r35, hk, hn, hv, hm, ht, hN, c49]
theorem w0_02_no {H : AHeap} {q : Nat} {kd nd vt : Int} {t0 n0 s0 t1 n1 s1 t2 n2 s2 tm : Int} {h0 h1 nt sm : Bool} (lq : q < H.n) {p : Int} (hW : H.get q = .cells (wcs t0 n0 s0 t1 n1 s1 t2 n2 s2 h0 h1 (p) tm nt sm) 66 15 .fixed) (hk : kindR kd = 0) (hn : nd % 2 = 0) (hv : votR vt = 2) (hm : mayR t0 n0 s0 0 t2 n2 s2 = false) :
    DoneW H q kd nd vt (wcs t0 n0 s0 t1 n1 s1 t2 n2 s2 h0 h1 p tm nt sm) := by
  have e1 : ¬ q = H.n := by omega
  have e2 : ¬ H.n = q := by omega
  have e3 : q < H.n + 1 := by omega
  have e4 : q < H.n + 1 + 1 := by omega
  have e5 : ¬ q = H.n + 1 := by omega
  have e6 : ¬ H.n + 1 = q := by omega
  have z1 : ∀ z, z < H.n → ¬ z = H.n := fun z h => by omega
  have z2 : ∀ z, z < H.n → ¬ z = H.n + 1 := fun z h => by omega
  have l1 : H.n ≤ H.n + 1 := by omega
  have l2 : H.n ≤ H.n + 1 + 1 := by omega
  have v0 : IntKind.i64.wrap 0 = 0 := by rw [IntKind.wrap_i64]; omega
  have v1 : IntKind.i64.wrap 1 = 1 := by rw [IntKind.wrap_i64]; omega
  have v2 : IntKind.i64.wrap 2 = 2 := by rw [IntKind.wrap_i64]; omega
  unfold DoneW
  unfold wcs at hW ⊢
  unfold c39
  simp (maxSteps := 10000000) +contextual [go_sem, hW, lq, e1, e2, e3, e4, e5, e6, z1, z2, l1, l2, v0, v1, v2, q7_28, q7_32, q7_49, q6_35, r28, r32, r35, hk, hn, hv, hm]
theorem w0_02_yes {H : AHeap} {q : Nat} {kd nd vt : Int} {t0 n0 s0 t1 n1 s1 t2 n2 s2 tm : Int} {h0 h1 nt sm : Bool} (lq : q < H.n) {p : Int} (hW : H.get q = .cells (wcs t0 n0 s0 t1 n1 s1 t2 n2 s2 h0 h1 (p) tm nt sm) 66 15 .fixed) (hk : kindR kd = 0) (hn : nd % 2 = 0) (hv : votR vt = 2) (hm : mayR t0 n0 s0 0 t2 n2 s2 = true) (hh : h0 = true) (ht : IntKind.i64.wrap (tm + 1) = tm + 1) (hN : nextV t0 n0 s0 (tm + 1) s0 = (tm + 1, 0, s0, 0)) :
    DoneW H q kd nd vt (wcs (tm + 1) 0 s0 t1 n1 s1 t2 n2 s2 h0 h1 0 (tm + 1) false false) := by
  have e1 : ¬ q = H.n := by omega
  have e2 : ¬ H.n = q := by omega
  have e3 : q < H.n + 1 := by omega
  have e4 : q < H.n + 1 + 1 := by omega
  have e5 : ¬ q = H.n + 1 := by omega
  have e6 : ¬ H.n + 1 = q := by omega
  have z1 : ∀ z, z < H.n → ¬ z = H.n := fun z h => by omega
  have z2 : ∀ z, z < H.n → ¬ z = H.n + 1 := fun z h => by omega
  have l1 : H.n ≤ H.n + 1 := by omega
  have l2 : H.n ≤ H.n + 1 + 1 := by omega
  have v0 : IntKind.i64.wrap 0 = 0 := by rw [IntKind.wrap_i64]; omega
  have v1 : IntKind.i64.wrap 1 = 1 := by rw [IntKind.wrap_i64]; omega
  have v2 : IntKind.i64.wrap 2 = 2 := by rw [IntKind.wrap_i64]; omega
  unfold DoneW
  unfold wcs at hW ⊢
  unfold c39
  subst hh
  simp (maxSteps := 10000000) +contextual [go_sem, hW, lq, e1, e2, e3, e4, e5, e6, z1, z2, l1, l2, v0, v1, v2, q7_28, q7_32, q7_49, q6_35, r28, r32, r35, hk, hn, hv, hm, ht, hN, c49]
theorem w0_1_self {H : AHeap} {q : Nat} {kd nd vt : Int} {t0 n0 s0 t1 n1 s1 t2 n2 s2 tm : Int} {h0 h1 nt sm : Bool} (lq : q < H.n) {p : Int} (hW : H.get q = .cells (wcs t0 n0 s0 t1 n1 s1 t2 n2 s2 h0 h1 (p) tm nt sm) 66 15 .fixed) (hk : kindR kd = 0) (hn : nd % 2 = 1) (hv : votR vt = 1) :
    DoneW H q kd nd vt (wcs t0 n0 s0 t1 n1 s1 t2 n2 s2 h0 h1 p tm nt sm) := by
  have e1 : ¬ q = H.n := by omega
  have e2 : ¬ H.n = q := by omega
  have e3 : q < H.n + 1 := by omega
  have e4 : q < H.n + 1 + 1 := by omega
  have e5 : ¬ q = H.n + 1 := by omega
  have e6 : ¬ H.n + 1 = q := by omega
  have z1 : ∀ z, z < H.n → ¬ z = H.n := fun z h => by omega
  have z2 : ∀ z, z < H.n → ¬ z = H.n + 1 := fun z h => by omega
  have l1 : H.n ≤ H.n + 1 := by omega
  have l2 : H.n ≤ H.n + 1 + 1 := by omega
  have v0 : IntKind.i64.wrap 0 = 0 := by rw [IntKind.wrap_i64]; omega
  have v1 : IntKind.i64.wrap 1 = 1 := by rw [IntKind.wrap_i64]; omega
  have v2 : IntKind.i64.wrap 2 = 2 := by rw [IntKind.wrap_i64]; omega
  unfold DoneW
  unfold wcs at hW ⊢
  unfold c39
  simp (maxSteps := 10000000) +contextual [go_sem, hW, lq, e1, e2, e3, e4, e5, e6, z1, z2, l1, l2, v0, v1, v2, q7_28, q7_32, q7_49, q6_35, r28, r32, r35, hk, hn, hv]
theorem w0_10_no {H : AHeap} {q : Nat} {kd nd vt : Int} {t0 n0 s0 t1 n1 s1 t2 n2 s2 tm : Int} {h0 h1 nt sm : Bool} (lq : q < H.n) {p : Int} (hW : H.get q = .cells (wcs t0 n0 s0 t1 n1 s1 t2 n2 s2 h0 h1 (p) tm nt sm) 66 15 .fixed) (hk : kindR kd = 0) (hn : nd % 2 = 1) (hv : votR vt = 0) (hm : mayR t1 n1 s1 1 t0 n0 s0 = false) :
    DoneW H q kd nd vt (wcs t0 n0 s0 t1 n1 s1 t2 n2 s2 h0 h1 p tm nt sm) := by
  have e1 : ¬ q = H.n := by omega
  have e2 : ¬ H.n = q := by omega
  have e3 : q < H.n + 1 := by omega
  have e4 : q < H.n + 1 + 1 := by omega
  have e5 : ¬ q = H.n + 1 := by omega
  have e6 : ¬ H.n + 1 = q := by omega
  have z1 : ∀ z, z < H.n → ¬ z = H.n := fun z h => by omega
  have z2 : ∀ z, z < H.n → ¬ z = H.n + 1 := fun z h => by omega
  have l1 : H.n ≤ H.n + 1 := by omega
  have l2 : H.n ≤ H.n + 1 + 1 := by omega
  have v0 : IntKind.i64.wrap 0 = 0 := by rw [IntKind.wrap_i64]; omega
  have v1 : IntKind.i64.wrap 1 = 1 := by rw [IntKind.wrap_i64]; omega
  have v2 : IntKind.i64.wrap 2 = 2 := by rw [IntKind.wrap_i64]; omega
  unfold DoneW
  unfold wcs at hW ⊢
  unfold c39
  simp (maxSteps := 10000000) +contextual [go_sem, hW, lq, e1, e2, e3, e4, e5, e6, z1, z2, l1, l2, v0, v1, v2, q7_28, q7_32, q7_49, q6_35, r28, r32, r35, hk, hn, hv, hm]
theorem w0_10_yes {H : AHeap} {q : Nat} {kd nd vt : Int} {t0 n0 s0 t1 n1 s1 t2 n2 s2 tm : Int} {h0 h1 nt sm : Bool} (lq : q < H.n) {p : Int} (hW : H.get q = .cells (wcs t0 n0 s0 t1 n1 s1 t2 n2 s2 h0 h1 (p) tm nt sm) 66 15 .fixed) (hk : kindR kd = 0) (hn : nd % 2 = 1) (hv : votR vt = 0) (hm : mayR t1 n1 s1 1 t0 n0 s0 = true) (hh : h1 = true) (ht : IntKind.i64.wrap (tm + 1) = tm + 1) (hN : nextV t1 n1 s1 (tm + 1) s1 = (tm + 1, 0, s1, 0)) :
    DoneW H q kd nd vt (wcs t0 n0 s0 (tm + 1) 0 s1 t2 n2 s2 h0 h1 1 (tm + 1) false false) := by
  have e1 : ¬ q = H.n := by omega
  have e2 : ¬ H.n = q := by omega
  have e3 : q < H.n + 1 := by omega
  have e4 : q < H.n + 1 + 1 := by omega
  have e5 : ¬ q = H.n + 1 := by omega
  have e6 : ¬ H.n + 1 = q := by omega
  have z1 : ∀ z, z < H.n → ¬ z = H.n := fun z h => by omega
  have z2 : ∀ z, z < H.n → ¬ z = H.n + 1 := fun z h => by omega
  have l1 : H.n ≤ H.n + 1 := by omega
  have l2 : H.n ≤ H.n + 1 + 1 := by omega
  have v0 : IntKind.i64.wrap 0 = 0 := by rw [IntKind.wrap_i64]; omega
  have v1 : IntKind.i64.wrap 1 = 1 := by rw [IntKind.wrap_i64]; omega
  have v2 : IntKind.i64.wrap 2 = 2 := by rw [IntKind.wrap_i64]; omega
  unfold DoneW
  unfold wcs at hW ⊢
  unfold c39
  subst hh
  simp (maxSteps := 10000000) +contextual [go_sem, hW, lq, e1, e2, e3, e4, e5, e6, z1, z2, l1, l2, v0, v1, v2, q7_28, q7_32, q7_49, q6_35, r28, r32, r35, hk, hn, hv, hm, ht, hN, c49]
theorem w0_12_no {H : AHeap} {q : Nat} {kd nd vt : Int} {t0 n0 s0 t1 n1 s1 t2 n2 s2 tm : Int} {h0 h1 nt sm : Bool} (lq : q < H.n) {p : Int} (hW : H.get q = .cells (wcs t0 n0 s0 t1 n1 s1 t2 n2 s2 h0 h1 (p) tm nt sm) 66 15 .fixed) (hk : kindR kd = 0) (hn : nd % 2 = 1) (hv : votR vt = 2) (hm : mayR t1 n1 s1 1 t2 n2 s2 = false) :
    DoneW H q kd nd vt (wcs t0 n0 s0 t1 n1 s1 t2 n2 s2 h0 h1 p tm nt sm) := by
  have e1 : ¬ q = H.n := by omega
  have e2 : ¬ H.n = q := by omega
  have e3 : q < H.n + 1 := by omega
  have e4 : q < H.n + 1 + 1 := by omega
  have e5 : ¬ q = H.n + 1 := by omega
  have e6 : ¬ H.n + 1 = q := by omega
  have z1 : ∀ z, z < H.n → ¬ z = H.n := fun z h => by omega
  have z2 : ∀ z, z < H.n → ¬ z = H.n + 1 := fun z h => by omega
  have l1 : H.n ≤ H.n + 1 := by omega
  have l2 : H.n ≤ H.n + 1 + 1 := by omega
  have v0 : IntKind.i64.wrap 0 = 0 := by rw [IntKind.wrap_i64]; omega
  have v1 : IntKind.i64.wrap 1 = 1 := by rw [IntKind.wrap_i64]; omega
  have v2 : IntKind.i64.wrap 2 = 2 := by rw [IntKind.wrap_i64]; omega
  unfold DoneW
  unfold wcs at hW ⊢
  unfold c39
  simp (maxSteps := 10000000) +contextual [go_sem, hW, lq, e1, e2, e3, e4, e5, e6, z1, z2, l1, l2, v0, v1, v2, q7_28, q7_32, q7_49, q6_35, r28, r32, r35, hk, hn, hv, hm]
theorem w0_12_yes {H : AHeap} {q : Nat} {kd nd vt : Int} {t0 n0 s0 t1 n1 s1 t2 n2 s2 tm : Int} {h0 h1 nt sm : Bool} (lq : q < H.n) {p : Int} (hW : H.get q = .cells (wcs t0 n0 s0 t1 n1 s1 t2 n2 s2 h0 h1 (p) tm nt sm) 66 15 .fixed) (hk : kindR kd = 0) (hn : nd % 2 = 1) (hv : votR vt = 2) (hm : mayR t1 n1 s1 1 t2 n2 s2 = true) (hh : h1 = true) (ht : IntKind.i64.wrap (tm + 1) = tm + 1) (hN : nextV t1 n1 s1 (tm + 1) s1 = (tm + 1, 0, s1, 0)) :
    DoneW H q kd nd vt (wcs t0 n0 s0 (tm + 1) 0 s1 t2 n2 s2 h0 h1 1 (tm + 1) false false) := by
  have e1 : ¬ q = H.n := by omega
  have e2 : ¬ H.n = q := by omega
  have e3 : q < H.n + 1 := by omega
  have e4 : q < H.n + 1 + 1 := by omega
  have e5 : ¬ q = H.n + 1 := by omega
  have e6 : ¬ H.n + 1 = q := by omega
  have z1 : ∀ z, z < H.n → ¬ z = H.n := fun z h => by omega
  have z2 : ∀ z, z < H.n → ¬ z = H.n + 1 := fun z h => by omega
  have l1 : H.n ≤ H.n + 1 := by omega
  have l2 : H.n ≤ H.n + 1 + 1 := by omega
  have v0 : IntKind.i64.wrap 0 = 0 := by rw [IntKind.wrap_i64]; omega
  have v1 : IntKind.i64.wrap 1 = 1 := by rw [IntKind.wrap_i64]; omega
  have v2 : IntKind.i64.wrap 2 = 2 := by rw [IntKind.wrap_i64]; omega
  unfold DoneW
  unfold wcs at hW ⊢
  unfold c39
  subst hh
  simp (maxSteps := 10000000) +contextual [go_sem, hW, lq, e1, e2, e3, e4, e5, e6, z1, z2, l1, l2, v0, v1, v2, q7_28, q7_32, q7_49, q6_35, r28, r32, r35, hk, hn, hv, hm, ht, hN, c49]
theorem w1_none {H : AHeap} {q : Nat} {kd nd vt : Int} {t0 n0 s0 t1 n1 s1 t2 n2 s2 tm : Int} {h0 h1 nt sm : Bool} (lq : q < H.n) (hW : H.get q = .cells (wcs t0 n0 s0 t1 n1 s1 t2 n2 s2 h0 h1 (-1) tm nt sm) 66 15 .fixed) (hk : kindR kd = 1) :
    DoneW H q kd nd vt (wcs t0 n0 s0 t1 n1 s1 t2 n2 s2 h0 h1 (-1) tm nt sm) := by
  have e1 : ¬ q = H.n := by omega
  have e2 : ¬ H.n = q := by omega
  have e3 : q < H.n + 1 := by omega
  have e4 : q < H.n + 1 + 1 := by omega
  have e5 : ¬ q = H.n + 1 := by omega
  have e6 : ¬ H.n + 1 = q := by omega
  have z1 : ∀ z, z < H.n → ¬ z = H.n := fun z h => by omega
  have z2 : ∀ z, z < H.n → ¬ z = H.n + 1 := fun z h => by omega
  have l1 : H.n ≤ H.n + 1 := by omega
  have l2 : H.n ≤ H.n + 1 + 1 := by omega
  have v0 : IntKind.i64.wrap 0 = 0 := by rw [IntKind.wrap_i64]; omega
  have v1 : IntKind.i64.wrap 1 = 1 := by rw [IntKind.wrap_i64]; omega
  have v2 : IntKind.i64.wrap 2 = 2 := by rw [IntKind.wrap_i64]; omega
  unfold DoneW
  unfold wcs at hW ⊢
  unfold c39
  simp (maxSteps := 10000000) +contextual [go_sem, hW, lq, e1, e2, e3, e4, e5, e6, z1, z2, l1, l2, v0, v1, v2, q7_28, q7_32, q7_49, q6_35, r28, r32, r35, hk]
theorem w2_none {H : AHeap} {q : Nat} {kd nd vt : Int} {t0 n0 s0 t1 n1 s1 t2 n2 s2 tm : Int} {h0 h1 nt sm : Bool} (lq : q < H.n) (hW : H.get q = .cells (wcs t0 n0 s0 t1 n1 s1 t2 n2 s2 h0 h1 (-1) tm nt sm) 66 15 .fixed) (hk : kindR kd = 2) :
    DoneW H q kd nd vt (wcs t0 n0 s0 t1 n1 s1 t2 n2 s2 h0 h1 (-1) tm nt sm) := by
  have e1 : ¬ q = H.n := by omega
  have e2 : ¬ H.n = q := by omega
  have e3 : q < H.n + 1 := by omega
  have e4 : q < H.n + 1 + 1 := by omega
  have e5 : ¬ q = H.n + 1 := by omega
  have e6 : ¬ H.n + 1 = q := by omega
  have z1 : ∀ z, z < H.n → ¬ z = H.n := fun z h => by omega
  have z2 : ∀ z, z < H.n → ¬ z = H.n + 1 := fun z h => by omega
  have l1 : H.n ≤ H.n + 1 := by omega
  have l2 : H.n ≤ H.n + 1 + 1 := by omega
  have v0 : IntKind.i64.wrap 0 = 0 := by rw [IntKind.wrap_i64]; omega
  have v1 : IntKind.i64.wrap 1 = 1 := by rw [IntKind.wrap_i64]; omega
  have v2 : IntKind.i64.wrap 2 = 2 := by rw [IntKind.wrap_i64]; omega
  unfold DoneW
  unfold wcs at hW ⊢
  unfold c39
  simp (maxSteps := 10000000) +contextual [go_sem, hW, lq, e1, e2, e3, e4, e5, e6, z1, z2, l1, l2, v0, v1, v2, q7_28, q7_32, q7_49, q6_35, r28, r32, r35, hk]
theorem w3_none {H : AHeap} {q : Nat} {kd nd vt : Int} {t0 n0 s0 t1 n1 s1 t2 n2 s2 tm : Int} {h0 h1 nt sm : Bool} (lq : q < H.n) (hW : H.get q = .cells (wcs t0 n0 s0 t1 n1 s1 t2 n2 s2 h0 h1 (-1) tm nt sm) 66 15 .fixed) (hk : kindR kd = 3) :
    DoneW H q kd nd vt (wcs t0 n0 s0 t1 n1 s1 t2 n2 s2 h0 h1 (-1) tm nt sm) := by
  have e1 : ¬ q = H.n := by omega
  have e2 : ¬ H.n = q := by omega
  have e3 : q < H.n + 1 := by omega
  have e4 : q < H.n + 1 + 1 := by omega
  have e5 : ¬ q = H.n + 1 := by omega
  have e6 : ¬ H.n + 1 = q := by omega
  have z1 : ∀ z, z < H.n → ¬ z = H.n := fun z h => by omega
  have z2 : ∀ z, z < H.n → ¬ z = H.n + 1 := fun z h => by omega
  have l1 : H.n ≤ H.n + 1 := by omega
  have l2 : H.n ≤ H.n + 1 + 1 := by omega
  have v0 : IntKind.i64.wrap 0 = 0 := by rw [IntKind.wrap_i64]; omega
  have v1 : IntKind.i64.wrap 1 = 1 := by rw [IntKind.wrap_i64]; omega
  have v2 : IntKind.i64.wrap 2 = 2 := by rw [IntKind.wrap_i64]; omega
  unfold DoneW
  unfold wcs at hW ⊢
  unfold c39
  simp (maxSteps := 10000000) +contextual [go_sem, hW, lq, e1, e2, e3, e4, e5, e6, z1, z2, l1, l2, v0, v1, v2, q7_28, q7_32, q7_49, q6_35, r28, r32, r35, hk]
theorem w4_none {H : AHeap} {q : Nat} {kd nd vt : Int} {t0 n0 s0 t1 n1 s1 t2 n2 s2 tm : Int} {h0 h1 nt sm : Bool} (lq : q < H.n) (hW : H.get q = .cells (wcs t0 n0 s0 t1 n1 s1 t2 n2 s2 h0 h1 (-1) tm nt sm) 66 15 .fixed) (hk : kindR kd = 4) :
    DoneW H q kd nd vt (wcs t0 n0 s0 t1 n1 s1 t2 n2 s2 h0 h1 (-1) tm nt sm) := by
  have e1 : ¬ q = H.n := by omega
  have e2 : ¬ H.n = q := by omega
  have e3 : q < H.n + 1 := by omega
  have e4 : q < H.n + 1 + 1 := by omega
  have e5 : ¬ q = H.n + 1 := by omega
  have e6 : ¬ H.n + 1 = q := by omega
  have z1 : ∀ z, z < H.n → ¬ z = H.n := fun z h => by omega
  have z2 : ∀ z, z < H.n → ¬ z = H.n + 1 := fun z h => by omega
  have l1 : H.n ≤ H.n + 1 := by omega
  have l2 : H.n ≤ H.n + 1 + 1 := by omega
  have v0 : IntKind.i64.wrap 0 = 0 := by rw [IntKind.wrap_i64]; omega
  have v1 : IntKind.i64.wrap 1 = 1 := by rw [IntKind.wrap_i64]; omega
  have v2 : IntKind.i64.wrap 2 = 2 := by rw [IntKind.wrap_i64]; omega
  unfold DoneW
  unfold wcs at hW ⊢
  unfold c39
  simp (maxSteps := 10000000) +contextual [go_sem, hW, lq, e1, e2, e3, e4, e5, e6, z1, z2, l1, l2, v0, v1, v2, q7_28, q7_32, q7_49, q6_35, r28, r32, r35, hk]
theorem w5_none {H : AHeap} {q : Nat} {kd nd vt : Int} {t0 n0 s0 t1 n1 s1 t2 n2 s2 tm : Int} {h0 h1 nt sm : Bool} (lq : q < H.n) (hW : H.get q = .cells (wcs t0 n0 s0 t1 n1 s1 t2 n2 s2 h0 h1 (-1) tm nt sm) 66 15 .fixed) (hk : kindR kd = 5) :
    DoneW H q kd nd vt (wcs t0 n0 s0 t1 n1 s1 t2 n2 s2 h0 h1 (-1) tm nt sm) := by
  have e1 : ¬ q = H.n := by omega
  have e2 : ¬ H.n = q := by omega
  have e3 : q < H.n + 1 := by omega
  have e4 : q < H.n + 1 + 1 := by omega
  have e5 : ¬ q = H.n + 1 := by omega
  have e6 : ¬ H.n + 1 = q := by omega
  have z1 : ∀ z, z < H.n → ¬ z = H.n := fun z h => by omega
  have z2 : ∀ z, z < H.n → ¬ z = H.n + 1 := fun z h => by omega
  have l1 : H.n ≤ H.n + 1 := by omega
  have l2 : H.n ≤ H.n + 1 + 1 := by omega
  have v0 : IntKind.i64.wrap 0 = 0 := by rw [IntKind.wrap_i64]; omega
  have v1 : IntKind.i64.wrap 1 = 1 := by rw [IntKind.wrap_i64]; omega
  have v2 : IntKind.i64.wrap 2 = 2 := by rw [IntKind.wrap_i64]; omega
  unfold DoneW
  unfold wcs at hW ⊢
  unfold c39
  simp (maxSteps := 10000000) +contextual [go_sem, hW, lq, e1, e2, e3, e4, e5, e6, z1, z2, l1, l2, v0, v1, v2, q7_28, q7_32, q7_49, q6_35, r28, r32, r35, hk]
theorem w1_0_self {H : AHeap} {q : Nat} {kd nd vt : Int} {t0 n0 s0 t1 n1 s1 t2 n2 s2 tm : Int} {h0 h1 nt sm : Bool} (lq : q < H.n) (hW : H.get q = .cells (wcs t0 n0 s0 t1 n1 s1 t2 n2 s2 h0 h1 (0) tm nt sm) 66 15 .fixed) (hk : kindR kd = 1) (hv : votR vt = 0) :
    DoneW H q kd nd vt (wcs t0 n0 s0 t1 n1 s1 t2 n2 s2 h0 h1 (0) tm nt sm) := by
  have e1 : ¬ q = H.n := by omega
  have e2 : ¬ H.n = q := by omega
  have e3 : q < H.n + 1 := by omega
  have e4 : q < H.n + 1 + 1 := by omega
  have e5 : ¬ q = H.n + 1 := by omega
  have e6 : ¬ H.n + 1 = q := by omega
  have z1 : ∀ z, z < H.n → ¬ z = H.n := fun z h => by omega
  have z2 : ∀ z, z < H.n → ¬ z = H.n + 1 := fun z h => by omega
  have l1 : H.n ≤ H.n + 1 := by omega
  have l2 : H.n ≤ H.n + 1 + 1 := by omega
  have v0 : IntKind.i64.wrap 0 = 0 := by rw [IntKind.wrap_i64]; omega
  have v1 : IntKind.i64.wrap 1 = 1 := by rw [IntKind.wrap_i64]; omega
  have v2 : IntKind.i64.wrap 2 = 2 := by rw [IntKind.wrap_i64]; omega
  unfold DoneW
  unfold wcs at hW ⊢
  unfold c39
  simp (maxSteps := 10000000) +contextual [go_sem, hW, lq, e1, e2, e3, e4, e5, e6, z1, z2, l1, l2, v0, v1, v2, q7_28, q7_32, q7_49, q6_35, r28, r32, r35, hk, hv]
theorem w1_01_new {H : AHeap} {q : Nat} {kd nd vt : Int} {t0 n0 s0 t1 n1 s1 t2 n2 s2 tm : Int} {h0 h1 nt sm : Bool} (lq : q < H.n) (hW : H.get q = .cells (wcs t0 n0 s0 t1 n1 s1 t2 n2 s2 h0 h1 (0) tm nt sm) 66 15 .fixed) (hk : kindR kd = 1) (hv : votR vt = 1) (hm : newerL t0 n0 t1 n1 = true) :
    DoneW H q kd nd vt (wcs t0 n0 s0 t0 n0 s0 t2 n2 s2 h0 h1 0 tm true sm) := by
  have e1 : ¬ q = H.n := by omega
  have e2 : ¬ H.n = q := by omega
  have e3 : q < H.n + 1 := by omega
  have e4 : q < H.n + 1 + 1 := by omega
  have e5 : ¬ q = H.n + 1 := by omega
  have e6 : ¬ H.n + 1 = q := by omega
  have z1 : ∀ z, z < H.n → ¬ z = H.n := fun z h => by omega
  have z2 : ∀ z, z < H.n → ¬ z = H.n + 1 := fun z h => by omega
  have l1 : H.n ≤ H.n + 1 := by omega
  have l2 : H.n ≤ H.n + 1 + 1 := by omega
  have v0 : IntKind.i64.wrap 0 = 0 := by rw [IntKind.wrap_i64]; omega
  have v1 : IntKind.i64.wrap 1 = 1 := by rw [IntKind.wrap_i64]; omega
  have v2 : IntKind.i64.wrap 2 = 2 := by rw [IntKind.wrap_i64]; omega
  unfold DoneW
  unfold wcs at hW ⊢
  unfold c39
  cases nt
  all_goals
    simp (maxSteps := 10000000) +contextual [go_sem, hW, lq, e1, e2, e3, e4, e5, e6, z1, z2, l1, l2, v0, v1, v2, q7_28, q7_32, q7_49, q6_35, r28, r32, r35, hk, hv, hm]
theorem w1_01_old {H : AHeap} {q : Nat} {kd nd vt : Int} {t0 n0 s0 t1 n1 s1 t2 n2 s2 tm : Int} {h0 h1 nt sm : Bool} (lq : q < H.n) (hW : H.get q = .cells (wcs t0 n0 s0 t1 n1 s1 t2 n2 s2 h0 h1 (0) tm nt sm) 66 15 .fixed) (hk : kindR kd = 1) (hv : votR vt = 1) (hm : newerL t0 n0 t1 n1 = false) :
    DoneW H q kd nd vt (wcs t0 n0 s0 t1 n1 s1 t2 n2 s2 h0 h1 0 tm (nt || (decide (t1 = t0) && (decide (n1 = n0) && decide (s1 = s0)))) sm) := by
  have e1 : ¬ q = H.n := by omega
  have e2 : ¬ H.n = q := by omega
  have e3 : q < H.n + 1 := by omega
  have e4 : q < H.n + 1 + 1 := by omega
  have e5 : ¬ q = H.n + 1 := by omega
  have e6 : ¬ H.n + 1 = q := by omega
  have z1 : ∀ z, z < H.n → ¬ z = H.n := fun z h => by omega
  have z2 : ∀ z, z < H.n → ¬ z = H.n + 1 := fun z h => by omega
  have l1 : H.n ≤ H.n + 1 := by omega
  have l2 : H.n ≤ H.n + 1 + 1 := by omega
  have v0 : IntKind.i64.wrap 0 = 0 := by rw [IntKind.wrap_i64]; omega
  have v1 : IntKind.i64.wrap 1 = 1 := by rw [IntKind.wrap_i64]; omega
  have v2 : IntKind.i64.wrap 2 = 2 := by rw [IntKind.wrap_i64]; omega
  unfold DoneW
  unfold wcs at hW ⊢
  unfold c39
  cases nt
  all_goals
    simp (maxSteps := 10000000) +contextual [go_sem, hW, lq, e1, e2, e3, e4, e5, e6, z1, z2, l1, l2, v0, v1, v2, q7_28, q7_32, q7_49, q6_35, r28, r32, r35, hk, hv, hm]
theorem w1_02_new {H : AHeap} {q : Nat} {kd nd vt : Int} {t0 n0 s0 t1 n1 s1 t2 n2 s2 tm : Int} {h0 h1 nt sm : Bool} (lq : q < H.n) (hW : H.get q = .cells (wcs t0 n0 s0 t1 n1 s1 t2 n2 s2 h0 h1 (0) tm nt sm) 66 15 .fixed) (hk : kindR kd = 1) (hv : votR vt = 2) (hm : newerL t0 n0 t2 n2 = true) :
    DoneW H q kd nd vt (wcs t0 n0 s0 t1 n1 s1 t0 n0 s0 h0 h1 0 tm true sm) := by
  have e1 : ¬ q = H.n := by omega
  have e2 : ¬ H.n = q := by omega
  have e3 : q < H.n + 1 := by omega
  have e4 : q < H.n + 1 + 1 := by omega
  have e5 : ¬ q = H.n + 1 := by omega
  have e6 : ¬ H.n + 1 = q := by omega
  have z1 : ∀ z, z < H.n → ¬ z = H.n := fun z h => by omega
  have z2 : ∀ z, z < H.n → ¬ z = H.n + 1 := fun z h => by omega
  have l1 : H.n ≤ H.n + 1 := by omega
  have l2 : H.n ≤ H.n + 1 + 1 := by omega
  have v0 : IntKind.i64.wrap 0 = 0 := by rw [IntKind.wrap_i64]; omega
  have v1 : IntKind.i64.wrap 1 = 1 := by rw [IntKind.wrap_i64]; omega
  have v2 : IntKind.i64.wrap 2 = 2 := by rw [IntKind.wrap_i64]; omega
  unfold DoneW
  unfold wcs at hW ⊢
  unfold c39
  cases nt
  all_goals
    simp (maxSteps := 10000000) +contextual [go_sem, hW, lq, e1, e2, e3, e4, e5, e6, z1, z2, l1, l2, v0, v1, v2, q7_28, q7_32, q7_49, q6_35, r28, r32, r35, hk, hv, hm]
theorem w1_02_old {H : AHeap} {q : Nat} {kd nd vt : Int} {t0 n0 s0 t1 n1 s1 t2 n2 s2 tm : Int} {h0 h1 nt sm : Bool} (lq : q < H.n) (hW : H.get q = .cells (wcs t0 n0 s0 t1 n1 s1 t2 n2 s2 h0 h1 (0) tm nt sm) 66 15 .fixed) (hk : kindR kd = 1) (hv : votR vt = 2) (hm : newerL t0 n0 t2 n2 = false) :
    DoneW H q kd nd vt (wcs t0 n0 s0 t1 n1 s1 t2 n2 s2 h0 h1 0 tm (nt || (decide (t2 = t0) && (decide (n2 = n0) && decide (s2 = s0)))) sm) := by
  have e1 : ¬ q = H.n := by omega
  have e2 : ¬ H.n = q := by omega
  have e3 : q < H.n + 1 := by omega
  have e4 : q < H.n + 1 + 1 := by omega
  have e5 : ¬ q = H.n + 1 := by omega
  have e6 : ¬ H.n + 1 = q := by omega
  have z1 : ∀ z, z < H.n → ¬ z = H.n := fun z h => by omega
  have z2 : ∀ z, z < H.n → ¬ z = H.n + 1 := fun z h => by omega
  have l1 : H.n ≤ H.n + 1 := by omega
  have l2 : H.n ≤ H.n + 1 + 1 := by omega
  have v0 : IntKind.i64.wrap 0 = 0 := by rw [IntKind.wrap_i64]; omega
  have v1 : IntKind.i64.wrap 1 = 1 := by rw [IntKind.wrap_i64]; omega
  have v2 : IntKind.i64.wrap 2 = 2 := by rw [IntKind.wrap_i64]; omega
  unfold DoneW
  unfold wcs at hW ⊢
  unfold c39
  cases nt
  all_goals
    simp (maxSteps := 10000000) +contextual [go_sem, hW, lq, e1, e2, e3, e4, e5, e6, z1, z2, l1, l2, v0, v1, v2, q7_28, q7_32, q7_49, q6_35, r28, r32, r35, hk, hv, hm]
theorem w2_0_no1 {H : AHeap} {q : Nat} {kd nd vt : Int} {t0 n0 s0 t1 n1 s1 t2 n2 s2 tm : Int} {h0 h1 nt sm : Bool} (lq : q < H.n) (hW : H.get q = .cells (wcs t0 n0 s0 t1 n1 s1 t2 n2 s2 h0 h1 (0) tm nt sm) 66 15 .fixed) (hk : kindR kd = 2) (hn : nt = false) :
    DoneW H q kd nd vt (wcs t0 n0 s0 t1 n1 s1 t2 n2 s2 h0 h1 0 tm nt sm) := by
  have e1 : ¬ q = H.n := by omega
  have e2 : ¬ H.n = q := by omega
  have e3 : q < H.n + 1 := by omega
  have e4 : q < H.n + 1 + 1 := by omega
  have e5 : ¬ q = H.n + 1 := by omega
  have e6 : ¬ H.n + 1 = q := by omega
  have z1 : ∀ z, z < H.n → ¬ z = H.n := fun z h => by omega
  have z2 : ∀ z, z < H.n → ¬ z = H.n + 1 := fun z h => by omega
  have l1 : H.n ≤ H.n + 1 := by omega
  have l2 : H.n ≤ H.n + 1 + 1 := by omega
  have v0 : IntKind.i64.wrap 0 = 0 := by rw [IntKind.wrap_i64]; omega
  have v1 : IntKind.i64.wrap 1 = 1 := by rw [IntKind.wrap_i64]; omega
  have v2 : IntKind.i64.wrap 2 = 2 := by rw [IntKind.wrap_i64]; omega
  unfold DoneW
  unfold wcs at hW ⊢
  unfold c39
  subst hn
  simp (maxSteps := 10000000) +contextual [go_sem, hW, lq, e1, e2, e3, e4, e5, e6, z1, z2, l1, l2, v0, v1, v2, q7_28, q7_32, q7_49, q6_35, r28, r32, r35, hk]
theorem w2_0_no2 {H : AHeap} {q : Nat} {kd nd vt : Int} {t0 n0 s0 t1 n1 s1 t2 n2 s2 tm : Int} {h0 h1 nt sm : Bool} (lq : q < H.n) (hW : H.get q = .cells (wcs t0 n0 s0 t1 n1 s1 t2 n2 s2 h0 h1 (0) tm nt sm) 66 15 .fixed) (hk : kindR kd = 2) (hs : ¬ s0 = 1) :
    DoneW H q kd nd vt (wcs t0 n0 s0 t1 n1 s1 t2 n2 s2 h0 h1 0 tm nt sm) := by
  have e1 : ¬ q = H.n := by omega
  have e2 : ¬ H.n = q := by omega
  have e3 : q < H.n + 1 := by omega
  have e4 : q < H.n + 1 + 1 := by omega
  have e5 : ¬ q = H.n + 1 := by omega
  have e6 : ¬ H.n + 1 = q := by omega
  have z1 : ∀ z, z < H.n → ¬ z = H.n := fun z h => by omega
  have z2 : ∀ z, z < H.n → ¬ z = H.n + 1 := fun z h => by omega
  have l1 : H.n ≤ H.n + 1 := by omega
  have l2 : H.n ≤ H.n + 1 + 1 := by omega
  have v0 : IntKind.i64.wrap 0 = 0 := by rw [IntKind.wrap_i64]; omega
  have v1 : IntKind.i64.wrap 1 = 1 := by rw [IntKind.wrap_i64]; omega
  have v2 : IntKind.i64.wrap 2 = 2 := by rw [IntKind.wrap_i64]; omega
  unfold DoneW
  unfold wcs at hW ⊢
  unfold c39
  cases nt
  all_goals
    simp (maxSteps := 10000000) +contextual [go_sem, hW, lq, e1, e2, e3, e4, e5, e6, z1, z2, l1, l2, v0, v1, v2, q7_28, q7_32, q7_49, q6_35, r28, r32, r35, hk, hs]
theorem w2_0_yes {H : AHeap} {q : Nat} {kd nd vt : Int} {t0 n0 s0 t1 n1 s1 t2 n2 s2 tm : Int} {h0 h1 nt sm : Bool} (lq : q < H.n) (hW : H.get q = .cells (wcs t0 n0 s0 t1 n1 s1 t2 n2 s2 h0 h1 (0) tm nt sm) 66 15 .fixed) (hk : kindR kd = 2) (hn : nt = true) (hs : s0 = 1) :
    DoneW H q kd nd vt (wcs t0 n0 s0 t1 n1 s1 t2 n2 s2 h0 false 0 tm nt false) := by
  have e1 : ¬ q = H.n := by omega
  have e2 : ¬ H.n = q := by omega
  have e3 : q < H.n + 1 := by omega
  have e4 : q < H.n + 1 + 1 := by omega
  have e5 : ¬ q = H.n + 1 := by omega
  have e6 : ¬ H.n + 1 = q := by omega
  have z1 : ∀ z, z < H.n → ¬ z = H.n := fun z h => by omega
  have z2 : ∀ z, z < H.n → ¬ z = H.n + 1 := fun z h => by omega
  have l1 : H.n ≤ H.n + 1 := by omega
  have l2 : H.n ≤ H.n + 1 + 1 := by omega
  have v0 : IntKind.i64.wrap 0 = 0 := by rw [IntKind.wrap_i64]; omega
  have v1 : IntKind.i64.wrap 1 = 1 := by rw [IntKind.wrap_i64]; omega
  have v2 : IntKind.i64.wrap 2 = 2 := by rw [IntKind.wrap_i64]; omega
  unfold DoneW
  unfold wcs at hW ⊢
  unfold c39
  subst hn
  subst hs
  simp (maxSteps := 10000000) +contextual [go_sem, hW, lq, e1, e2, e3, e4, e5, e6, z1, z2, l1, l2, v0, v1, v2, q7_28, q7_32, q7_49, q6_35, r28, r32, r35, hk]
theorem w3_0 {H : AHeap} {q : Nat} {kd nd vt : Int} {t0 n0 s0 t1 n1 s1 t2 n2 s2 tm : Int} {h0 h1 nt sm : Bool} (lq : q < H.n) (hW : H.get q = .cells (wcs t0 n0 s0 t1 n1 s1 t2 n2 s2 h0 h1 (0) tm nt sm) 66 15 .fixed) (hk : kindR kd = 3) :
    DoneW H q kd nd vt (wcs t0 n0 s0 t1 n1 s1 t2 n2 s2 h0 h0 0 tm nt true) := by
  have e1 : ¬ q = H.n := by omega
  have e2 : ¬ H.n = q := by omega
  have e3 : q < H.n + 1 := by omega
  have e4 : q < H.n + 1 + 1 := by omega
  have e5 : ¬ q = H.n + 1 := by omega
  have e6 : ¬ H.n + 1 = q := by omega
  have z1 : ∀ z, z < H.n → ¬ z = H.n := fun z h => by omega
  have z2 : ∀ z, z < H.n → ¬ z = H.n + 1 := fun z h => by omega
  have l1 : H.n ≤ H.n + 1 := by omega
  have l2 : H.n ≤ H.n + 1 + 1 := by omega
  have v0 : IntKind.i64.wrap 0 = 0 := by rw [IntKind.wrap_i64]; omega
  have v1 : IntKind.i64.wrap 1 = 1 := by rw [IntKind.wrap_i64]; omega
  have v2 : IntKind.i64.wrap 2 = 2 := by rw [IntKind.wrap_i64]; omega
  unfold DoneW
  unfold wcs at hW ⊢
  unfold c39
  simp (maxSteps := 10000000) +contextual [go_sem, hW, lq, e1, e2, e3, e4, e5, e6, z1, z2, l1, l2, v0, v1, v2, q7_28, q7_32, q7_49, q6_35, r28, r32, r35, hk]
theorem w4_0_no {H : AHeap} {q : Nat} {kd nd vt : Int} {t0 n0 s0 t1 n1 s1 t2 n2 s2 tm : Int} {h0 h1 nt sm : Bool} (lq : q < H.n) (hW : H.get q = .cells (wcs t0 n0 s0 t1 n1 s1 t2 n2 s2 h0 h1 (0) tm nt sm) 66 15 .fixed) (hk : kindR kd = 4) (hs : ¬ s0 = 3) :
    DoneW H q kd nd vt (wcs t0 n0 s0 t1 n1 s1 t2 n2 s2 h0 h1 0 tm nt sm) := by
  have e1 : ¬ q = H.n := by omega
  have e2 : ¬ H.n = q := by omega
  have e3 : q < H.n + 1 := by omega
  have e4 : q < H.n + 1 + 1 := by omega
  have e5 : ¬ q = H.n + 1 := by omega
  have e6 : ¬ H.n + 1 = q := by omega
  have z1 : ∀ z, z < H.n → ¬ z = H.n := fun z h => by omega
  have z2 : ∀ z, z < H.n → ¬ z = H.n + 1 := fun z h => by omega
  have l1 : H.n ≤ H.n + 1 := by omega
  have l2 : H.n ≤ H.n + 1 + 1 := by omega
  have v0 : IntKind.i64.wrap 0 = 0 := by rw [IntKind.wrap_i64]; omega
  have v1 : IntKind.i64.wrap 1 = 1 := by rw [IntKind.wrap_i64]; omega
  have v2 : IntKind.i64.wrap 2 = 2 := by rw [IntKind.wrap_i64]; omega
  unfold DoneW
  unfold wcs at hW ⊢
  unfold c39
  simp (maxSteps := 10000000) +contextual [go_sem, hW, lq, e1, e2, e3, e4, e5, e6, z1, z2, l1, l2, v0, v1, v2, q7_28, q7_32, q7_49, q6_35, r28, r32, r35, hk, hs]
theorem w4_0_yes {H : AHeap} {q : Nat} {kd nd vt : Int} {t0 n0 s0 t1 n1 s1 t2 n2 s2 tm : Int} {h0 h1 nt sm : Bool} (lq : q < H.n) (hW : H.get q = .cells (wcs t0 n0 s0 t1 n1 s1 t2 n2 s2 h0 h1 (0) tm nt sm) 66 15 .fixed) (hk : kindR kd = 4) (hs : s0 = 3) (hN : nextV t0 n0 3 tm 1 = (tm, n0 + 1, 1, 0)) :
    DoneW H q kd nd vt (wcs tm (n0 + 1) 1 t1 n1 s1 t2 n2 s2 h0 h1 0 tm false sm) := by
  have e1 : ¬ q = H.n := by omega
  have e2 : ¬ H.n = q := by omega
  have e3 : q < H.n + 1 := by omega
  have e4 : q < H.n + 1 + 1 := by omega
  have e5 : ¬ q = H.n + 1 := by omega
  have e6 : ¬ H.n + 1 = q := by omega
  have z1 : ∀ z, z < H.n → ¬ z = H.n := fun z h => by omega
  have z2 : ∀ z, z < H.n → ¬ z = H.n + 1 := fun z h => by omega
  have l1 : H.n ≤ H.n + 1 := by omega
  have l2 : H.n ≤ H.n + 1 + 1 := by omega
  have v0 : IntKind.i64.wrap 0 = 0 := by rw [IntKind.wrap_i64]; omega
  have v1 : IntKind.i64.wrap 1 = 1 := by rw [IntKind.wrap_i64]; omega
  have v2 : IntKind.i64.wrap 2 = 2 := by rw [IntKind.wrap_i64]; omega
  unfold DoneW
  unfold wcs at hW ⊢
  unfold c39
  subst hs
  simp (maxSteps := 10000000) +contextual [go_sem, hW, lq, e1, e2, e3, e4, e5, e6, z1, z2, l1, l2, v0, v1, v2, q7_28, q7_32, q7_49, q6_35, r28, r32, r35, hk, hN, c49]
theorem w5_0_no1 {H : AHeap} {q : Nat} {kd nd vt : Int} {t0 n0 s0 t1 n1 s1 t2 n2 s2 tm : Int} {h0 h1 nt sm : Bool} (lq : q < H.n) (hW : H.get q = .cells (wcs t0 n0 s0 t1 n1 s1 t2 n2 s2 h0 h1 (0) tm nt sm) 66 15 .fixed) (hk : kindR kd = 5) (hs : s0 = 3) :
    DoneW H q kd nd vt (wcs t0 n0 s0 t1 n1 s1 t2 n2 s2 h0 h1 0 tm nt sm) := by
  have e1 : ¬ q = H.n := by omega
  have e2 : ¬ H.n = q := by omega
  have e3 : q < H.n + 1 := by omega
  have e4 : q < H.n + 1 + 1 := by omega
  have e5 : ¬ q = H.n + 1 := by omega
  have e6 : ¬ H.n + 1 = q := by omega
  have z1 : ∀ z, z < H.n → ¬ z = H.n := fun z h => by omega
  have z2 : ∀ z, z < H.n → ¬ z = H.n + 1 := fun z h => by omega
  have l1 : H.n ≤ H.n + 1 := by omega
  have l2 : H.n ≤ H.n + 1 + 1 := by omega
  have v0 : IntKind.i64.wrap 0 = 0 := by rw [IntKind.wrap_i64]; omega
  have v1 : IntKind.i64.wrap 1 = 1 := by rw [IntKind.wrap_i64]; omega
  have v2 : IntKind.i64.wrap 2 = 2 := by rw [IntKind.wrap_i64]; omega
  unfold DoneW
  unfold wcs at hW ⊢
  unfold c39
  subst hs
  simp (maxSteps := 10000000) +contextual [go_sem, hW, lq, e1, e2, e3, e4, e5, e6, z1, z2, l1, l2, v0, v1, v2, q7_28, q7_32, q7_49, q6_35, r28, r32, r35, hk]
theorem w5_0_no2 {H : AHeap} {q : Nat} {kd nd vt : Int} {t0 n0 s0 t1 n1 s1 t2 n2 s2 tm : Int} {h0 h1 nt sm : Bool} (lq : q < H.n) (hW : H.get q = .cells (wcs t0 n0 s0 t1 n1 s1 t2 n2 s2 h0 h1 (0) tm nt sm) 66 15 .fixed) (hk : kindR kd = 5) (hs : ¬ s0 = 3) (hm : sm = false) :
    DoneW H q kd nd vt (wcs t0 n0 s0 t1 n1 s1 t2 n2 s2 h0 h1 0 tm nt sm) := by
  have e1 : ¬ q = H.n := by omega
  have e2 : ¬ H.n = q := by omega
  have e3 : q < H.n + 1 := by omega
  have e4 : q < H.n + 1 + 1 := by omega
  have e5 : ¬ q = H.n + 1 := by omega
  have e6 : ¬ H.n + 1 = q := by omega
  have z1 : ∀ z, z < H.n → ¬ z = H.n := fun z h => by omega
  have z2 : ∀ z, z < H.n → ¬ z = H.n + 1 := fun z h => by omega
  have l1 : H.n ≤ H.n + 1 := by omega
  have l2 : H.n ≤ H.n + 1 + 1 := by omega
  have v0 : IntKind.i64.wrap 0 = 0 := by rw [IntKind.wrap_i64]; omega
  have v1 : IntKind.i64.wrap 1 = 1 := by rw [IntKind.wrap_i64]; omega
  have v2 : IntKind.i64.wrap 2 = 2 := by rw [IntKind.wrap_i64]; omega
  unfold DoneW
  unfold wcs at hW ⊢
  unfold c39
  subst hm
  simp (maxSteps := 10000000) +contextual [go_sem, hW, lq, e1, e2, e3, e4, e5, e6, z1, z2, l1, l2, v0, v1, v2, q7_28, q7_32, q7_49, q6_35, r28, r32, r35, hk, hs]
theorem w5_0_yes {H : AHeap} {q : Nat} {kd nd vt : Int} {t0 n0 s0 t1 n1 s1 t2 n2 s2 tm : Int} {h0 h1 nt sm : Bool} (lq : q < H.n) (hW : H.get q = .cells (wcs t0 n0 s0 t1 n1 s1 t2 n2 s2 h0 h1 (0) tm nt sm) 66 15 .fixed) (hk : kindR kd = 5) (hs : ¬ s0 = 3) (hm : sm = true) (hN : nextV t0 n0 s0 tm 3 = (tm, n0 + 1, 3, 0)) :
    DoneW H q kd nd vt (wcs tm (n0 + 1) 3 t1 n1 s1 t2 n2 s2 h0 h1 0 tm false sm) := by
  have e1 : ¬ q = H.n := by omega
  have e2 : ¬ H.n = q := by omega
  have e3 : q < H.n + 1 := by omega
  have e4 : q < H.n + 1 + 1 := by omega
  have e5 : ¬ q = H.n + 1 := by omega
  have e6 : ¬ H.n + 1 = q := by omega
  have z1 : ∀ z, z < H.n → ¬ z = H.n := fun z h => by omega
  have z2 : ∀ z, z < H.n → ¬ z = H.n + 1 := fun z h => by omega
  have l1 : H.n ≤ H.n + 1 := by omega
  have l2 : H.n ≤ H.n + 1 + 1 := by omega
  have v0 : IntKind.i64.wrap 0 = 0 := by rw [IntKind.wrap_i64]; omega
  have v1 : IntKind.i64.wrap 1 = 1 := by rw [IntKind.wrap_i64]; omega
  have v2 : IntKind.i64.wrap 2 = 2 := by rw [IntKind.wrap_i64]; omega
  unfold DoneW
  unfold wcs at hW ⊢
  unfold c39
  subst hm
  simp (maxSteps := 10000000) +contextual [go_sem, hW, lq, e1, e2, e3, e4, e5, e6, z1, z2, l1, l2, v0, v1, v2, q7_28, q7_32, q7_49, q6_35, r28, r32, r35, hk, hs, hN, c49]
theorem w1_1_self {H : AHeap} {q : Nat} {kd nd vt : Int} {t0 n0 s0 t1 n1 s1 t2 n2 s2 tm : Int} {h0 h1 nt sm : Bool} (lq : q < H.n) (hW : H.get q = .cells (wcs t0 n0 s0 t1 n1 s1 t2 n2 s2 h0 h1 (1) tm nt sm) 66 15 .fixed) (hk : kindR kd = 1) (hv : votR vt = 1) :
    DoneW H q kd nd vt (wcs t0 n0 s0 t1 n1 s1 t2 n2 s2 h0 h1 (1) tm nt sm) := by
  have e1 : ¬ q = H.n := by omega
  have e2 : ¬ H.n = q := by omega
  have e3 : q < H.n + 1 := by omega
  have e4 : q < H.n + 1 + 1 := by omega
  have e5 : ¬ q = H.n + 1 := by omega
  have e6 : ¬ H.n + 1 = q := by omega
  have z1 : ∀ z, z < H.n → ¬ z = H.n := fun z h => by omega
  have z2 : ∀ z, z < H.n → ¬ z = H.n + 1 := fun z h => by omega
  have l1 : H.n ≤ H.n + 1 := by omega
  have l2 : H.n ≤ H.n + 1 + 1 := by omega
  have v0 : IntKind.i64.wrap 0 = 0 := by rw [IntKind.wrap_i64]; omega
  have v1 : IntKind.i64.wrap 1 = 1 := by rw [IntKind.wrap_i64]; omega
  have v2 : IntKind.i64.wrap 2 = 2 := by rw [IntKind.wrap_i64]; omega
  unfold DoneW
  unfold wcs at hW ⊢
  unfold c39
  simp (maxSteps := 10000000) +contextual [go_sem, hW, lq, e1, e2, e3, e4, e5, e6, z1, z2, l1, l2, v0, v1, v2, q7_28, q7_32, q7_49, q6_35, r28, r32, r35, hk, hv]
theorem w1_10_new {H : AHeap} {q : Nat} {kd nd vt : Int} {t0 n0 s0 t1 n1 s1 t2 n2 s2 tm : Int} {h0 h1 nt sm : Bool} (lq : q < H.n) (hW : H.get q = .cells (wcs t0 n0 s0 t1 n1 s1 t2 n2 s2 h0 h1 (1) tm nt sm) 66 15 .fixed) (hk : kindR kd = 1) (hv : votR vt = 0) (hm : newerL t1 n1 t0 n0 = true) :
    DoneW H q kd nd vt (wcs t1 n1 s1 t1 n1 s1 t2 n2 s2 h0 h1 1 tm true sm) := by
  have e1 : ¬ q = H.n := by omega
  have e2 : ¬ H.n = q := by omega
  have e3 : q < H.n + 1 := by omega
  have e4 : q < H.n + 1 + 1 := by omega
  have e5 : ¬ q = H.n + 1 := by omega
  have e6 : ¬ H.n + 1 = q := by omega
  have z1 : ∀ z, z < H.n → ¬ z = H.n := fun z h => by omega
  have z2 : ∀ z, z < H.n → ¬ z = H.n + 1 := fun z h => by omega
  have l1 : H.n ≤ H.n + 1 := by omega
  have l2 : H.n ≤ H.n + 1 + 1 := by omega
  have v0 : IntKind.i64.wrap 0 = 0 := by rw [IntKind.wrap_i64]; omega
  have v1 : IntKind.i64.wrap 1 = 1 := by rw [IntKind.wrap_i64]; omega
  have v2 : IntKind.i64.wrap 2 = 2 := by rw [IntKind.wrap_i64]; omega
  unfold DoneW
  unfold wcs at hW ⊢
  unfold c39
  cases nt
  all_goals
    simp (maxSteps := 10000000) +contextual [go_sem, hW, lq, e1, e2, e3, e4, e5, e6, z1, z2, l1, l2, v0, v1, v2, q7_28, q7_32, q7_49, q6_35, r28, r32, r35, hk, hv, hm]
theorem w1_10_old {H : AHeap} {q : Nat} {kd nd vt : Int} {t0 n0 s0 t1 n1 s1 t2 n2 s2 tm : Int} {h0 h1 nt sm : Bool} (lq : q < H.n) (hW : H.get q = .cells (wcs t0 n0 s0 t1 n1 s1 t2 n2 s2 h0 h1 (1) tm nt sm) 66 15 .fixed) (hk : kindR kd = 1) (hv : votR vt = 0) (hm : newerL t1 n1 t0 n0 = false) :
    DoneW H q kd nd vt (wcs t0 n0 s0 t1 n1 s1 t2 n2 s2 h0 h1 1 tm (nt || (decide (t0 = t1) && (decide (n0 = n1) && decide (s0 = s1)))) sm) := by
  have e1 : ¬ q = H.n := by omega
  have e2 : ¬ H.n = q := by omega
  have e3 : q < H.n + 1 := by omega
  have e4 : q < H.n + 1 + 1 := by omega
  have e5 : ¬ q = H.n + 1 := by omega
  have e6 : ¬ H.n + 1 = q := by omega
  have z1 : ∀ z, z < H.n → ¬ z = H.n := fun z h => by omega
  have z2 : ∀ z, z < H.n → ¬ z = H.n + 1 := fun z h => by omega
  have l1 : H.n ≤ H.n + 1 := by omega
  have l2 : H.n ≤ H.n + 1 + 1 := by omega
  have v0 : IntKind.i64.wrap 0 = 0 := by rw [IntKind.wrap_i64]; omega
  have v1 : IntKind.i64.wrap 1 = 1 := by rw [IntKind.wrap_i64]; omega
  have v2 : IntKind.i64.wrap 2 = 2 := by rw [IntKind.wrap_i64]; omega
  unfold DoneW
  unfold wcs at hW ⊢
  unfold c39
  cases nt
  all_goals
    simp (maxSteps := 10000000) +contextual [go_sem, hW, lq, e1, e2, e3, e4, e5, e6, z1, z2, l1, l2, v0, v1, v2, q7_28, q7_32, q7_49, q6_35, r28, r32, r35, hk, hv, hm]
theorem w1_12_new {H : AHeap} {q : Nat} {kd nd vt : Int} {t0 n0 s0 t1 n1 s1 t2 n2 s2 tm : Int} {h0 h1 nt sm : Bool} (lq : q < H.n) (hW : H.get q = .cells (wcs t0 n0 s0 t1 n1 s1 t2 n2 s2 h0 h1 (1) tm nt sm) 66 15 .fixed) (hk : kindR kd = 1) (hv : votR vt = 2) (hm : newerL t1 n1 t2 n2 = true) :
    DoneW H q kd nd vt (wcs t0 n0 s0 t1 n1 s1 t1 n1 s1 h0 h1 1 tm true sm) := by
  have e1 : ¬ q = H.n := by omega
  have e2 : ¬ H.n = q := by omega
  have e3 : q < H.n + 1 := by omega
  have e4 : q < H.n + 1 + 1 := by omega
  have e5 : ¬ q = H.n + 1 := by omega
  have e6 : ¬ H.n + 1 = q := by omega
  have z1 : ∀ z, z < H.n → ¬ z = H.n := fun z h => by omega
  have z2 : ∀ z, z < H.n → ¬ z = H.n + 1 := fun z h => by omega
  have l1 : H.n ≤ H.n + 1 := by omega
  have l2 : H.n ≤ H.n + 1 + 1 := by omega
  have v0 : IntKind.i64.wrap 0 = 0 := by rw [IntKind.wrap_i64]; omega
  have v1 : IntKind.i64.wrap 1 = 1 := by rw [IntKind.wrap_i64]; omega
  have v2 : IntKind.i64.wrap 2 = 2 := by rw [IntKind.wrap_i64]; omega
  unfold DoneW
  unfold wcs at hW ⊢
  unfold c39
  cases nt
  all_goals
    simp (maxSteps := 10000000) +contextual [go_sem, hW, lq, e1, e2, e3, e4, e5, e6, z1, z2, l1, l2, v0, v1, v2, q7_28, q7_32, q7_49, q6_35, r28, r32, r35, hk, hv, hm]
theorem w1_12_old {H : AHeap} {q : Nat} {kd nd vt : Int} {t0 n0 s0 t1 n1 s1 t2 n2 s2 tm : Int} {h0 h1 nt sm : Bool} (lq : q < H.n) (hW : H.get q = .cells (wcs t0 n0 s0 t1 n1 s1 t2 n2 s2 h0 h1 (1) tm nt sm) 66 15 .fixed) (hk : kindR kd = 1) (hv : votR vt = 2) (hm : newerL t1 n1 t2 n2 = false) :
    DoneW H q kd nd vt (wcs t0 n0 s0 t1 n1 s1 t2 n2 s2 h0 h1 1 tm (nt || (decide (t2 = t1) && (decide (n2 = n1) && decide (s2 = s1)))) sm) := by
  have e1 : ¬ q = H.n := by omega
  have e2 : ¬ H.n = q := by omega
  have e3 : q < H.n + 1 := by omega
  have e4 : q < H.n + 1 + 1 := by omega
  have e5 : ¬ q = H.n + 1 := by omega
  have e6 : ¬ H.n + 1 = q := by omega
  have z1 : ∀ z, z < H.n → ¬ z = H.n := fun z h => by omega
  have z2 : ∀ z, z < H.n → ¬ z = H.n + 1 := fun z h => by omega
  have l1 : H.n ≤ H.n + 1 := by omega
  have l2 : H.n ≤ H.n + 1 + 1 := by omega
  have v0 : IntKind.i64.wrap 0 = 0 := by rw [IntKind.wrap_i64]; omega
  have v1 : IntKind.i64.wrap 1 = 1 := by rw [IntKind.wrap_i64]; omega
  have v2 : IntKind.i64.wrap 2 = 2 := by rw [IntKind.wrap_i64]; omega
  unfold DoneW
  unfold wcs at hW ⊢
  unfold c39
  cases nt
  all_goals
    simp (maxSteps := 10000000) +contextual [go_sem, hW, lq, e1, e2, e3, e4, e5, e6, z1, z2, l1, l2, v0, v1, v2, q7_28, q7_32, q7_49, q6_35, r28, r32, r35, hk, hv, hm]
theorem w2_1_no1 {H : AHeap} {q : Nat} {kd nd vt : Int} {t0 n0 s0 t1 n1 s1 t2 n2 s2 tm : Int} {h0 h1 nt sm : Bool} (lq : q < H.n) (hW : H.get q = .cells (wcs t0 n0 s0 t1 n1 s1 t2 n2 s2 h0 h1 (1) tm nt sm) 66 15 .fixed) (hk : kindR kd = 2) (hn : nt = false) :
    DoneW H q kd nd vt (wcs t0 n0 s0 t1 n1 s1 t2 n2 s2 h0 h1 1 tm nt sm) := by
  have e1 : ¬ q = H.n := by omega
  have e2 : ¬ H.n = q := by omega
  have e3 : q < H.n + 1 := by omega
  have e4 : q < H.n + 1 + 1 := by omega
  have e5 : ¬ q = H.n + 1 := by omega
  have e6 : ¬ H.n + 1 = q := by omega
  have z1 : ∀ z, z < H.n → ¬ z = H.n := fun z h => by omega
  have z2 : ∀ z, z < H.n → ¬ z = H.n + 1 := fun z h => by omega
  have l1 : H.n ≤ H.n + 1 := by omega
  have l2 : H.n ≤ H.n + 1 + 1 := by omega
  have v0 : IntKind.i64.wrap 0 = 0 := by rw [IntKind.wrap_i64]; omega
  have v1 : IntKind.i64.wrap 1 = 1 := by rw [IntKind.wrap_i64]; omega
  have v2 : IntKind.i64.wrap 2 = 2 := by rw [IntKind.wrap_i64]; omega
  unfold DoneW
  unfold wcs at hW ⊢
  unfold c39
  subst hn
  simp (maxSteps := 10000000) +contextual [go_sem, hW, lq, e1, e2, e3, e4, e5, e6, z1, z2, l1, l2, v0, v1, v2, q7_28, q7_32, q7_49, q6_35, r28, r32, r35, hk]
theorem w2_1_no2 {H : AHeap} {q : Nat} {kd nd vt : Int} {t0 n0 s0 t1 n1 s1 t2 n2 s2 tm : Int} {h0 h1 nt sm : Bool} (lq : q < H.n) (hW : H.get q = .cells (wcs t0 n0 s0 t1 n1 s1 t2 n2 s2 h0 h1 (1) tm nt sm) 66 15 .fixed) (hk : kindR kd = 2) (hs : ¬ s1 = 2) :
    DoneW H q kd nd vt (wcs t0 n0 s0 t1 n1 s1 t2 n2 s2 h0 h1 1 tm nt sm) := by
  have e1 : ¬ q = H.n := by omega
  have e2 : ¬ H.n = q := by omega
  have e3 : q < H.n + 1 := by omega
  have e4 : q < H.n + 1 + 1 := by omega
  have e5 : ¬ q = H.n + 1 := by omega
  have e6 : ¬ H.n + 1 = q := by omega
  have z1 : ∀ z, z < H.n → ¬ z = H.n := fun z h => by omega
  have z2 : ∀ z, z < H.n → ¬ z = H.n + 1 := fun z h => by omega
  have l1 : H.n ≤ H.n + 1 := by omega
  have l2 : H.n ≤ H.n + 1 + 1 := by omega
  have v0 : IntKind.i64.wrap 0 = 0 := by rw [IntKind.wrap_i64]; omega
  have v1 : IntKind.i64.wrap 1 = 1 := by rw [IntKind.wrap_i64]; omega
  have v2 : IntKind.i64.wrap 2 = 2 := by rw [IntKind.wrap_i64]; omega
  unfold DoneW
  unfold wcs at hW ⊢
  unfold c39
  cases nt
  all_goals
    simp (maxSteps := 10000000) +contextual [go_sem, hW, lq, e1, e2, e3, e4, e5, e6, z1, z2, l1, l2, v0, v1, v2, q7_28, q7_32, q7_49, q6_35, r28, r32, r35, hk, hs]
theorem w2_1_yes {H : AHeap} {q : Nat} {kd nd vt : Int} {t0 n0 s0 t1 n1 s1 t2 n2 s2 tm : Int} {h0 h1 nt sm : Bool} (lq : q < H.n) (hW : H.get q = .cells (wcs t0 n0 s0 t1 n1 s1 t2 n2 s2 h0 h1 (1) tm nt sm) 66 15 .fixed) (hk : kindR kd = 2) (hn : nt = true) (hs : s1 = 2) :
    DoneW H q kd nd vt (wcs t0 n0 s0 t1 n1 s1 t2 n2 s2 false h1 1 tm nt false) := by
  have e1 : ¬ q = H.n := by omega
  have e2 : ¬ H.n = q := by omega
  have e3 : q < H.n + 1 := by omega
  have e4 : q < H.n + 1 + 1 := by omega
  have e5 : ¬ q = H.n + 1 := by omega
  have e6 : ¬ H.n + 1 = q := by omega
  have z1 : ∀ z, z < H.n → ¬ z = H.n := fun z h => by omega
  have z2 : ∀ z, z < H.n → ¬ z = H.n + 1 := fun z h => by omega
  have l1 : H.n ≤ H.n + 1 := by omega
  have l2 : H.n ≤ H.n + 1 + 1 := by omega
  have v0 : IntKind.i64.wrap 0 = 0 := by rw [IntKind.wrap_i64]; omega
  have v1 : IntKind.i64.wrap 1 = 1 := by rw [IntKind.wrap_i64]; omega
  have v2 : IntKind.i64.wrap 2 = 2 := by rw [IntKind.wrap_i64]; omega
  unfold DoneW
  unfold wcs at hW ⊢
  unfold c39
  subst hn
  subst hs
  simp (maxSteps := 10000000) +contextual [go_sem, hW, lq, e1, e2, e3, e4, e5, e6, z1, z2, l1, l2, v0, v1, v2, q7_28, q7_32, q7_49, q6_35, r28, r32, r35, hk]
theorem w3_1 {H : AHeap} {q : Nat} {kd nd vt : Int} {t0 n0 s0 t1 n1 s1 t2 n2 s2 tm : Int} {h0 h1 nt sm : Bool} (lq : q < H.n) (hW : H.get q = .cells (wcs t0 n0 s0 t1 n1 s1 t2 n2 s2 h0 h1 (1) tm nt sm) 66 15 .fixed) (hk : kindR kd = 3) :
    DoneW H q kd nd vt (wcs t0 n0 s0 t1 n1 s1 t2 n2 s2 h1 h1 1 tm nt true) := by
  have e1 : ¬ q = H.n := by omega
  have e2 : ¬ H.n = q := by omega
  have e3 : q < H.n + 1 := by omega
  have e4 : q < H.n + 1 + 1 := by omega
  have e5 : ¬ q = H.n + 1 := by omega
  have e6 : ¬ H.n + 1 = q := by omega
  have z1 : ∀ z, z < H.n → ¬ z = H.n := fun z h => by omega
  have z2 : ∀ z, z < H.n → ¬ z = H.n + 1 := fun z h => by omega
  have l1 : H.n ≤ H.n + 1 := by omega
  have l2 : H.n ≤ H.n + 1 + 1 := by omega
  have v0 : IntKind.i64.wrap 0 = 0 := by rw [IntKind.wrap_i64]; omega
  have v1 : IntKind.i64.wrap 1 = 1 := by rw [IntKind.wrap_i64]; omega
  have v2 : IntKind.i64.wrap 2 = 2 := by rw [IntKind.wrap_i64]; omega
  unfold DoneW
  unfold wcs at hW ⊢
  unfold c39
  simp (maxSteps := 10000000) +contextual [go_sem, hW, lq, e1, e2, e3, e4, e5, e6, z1, z2, l1, l2, v0, v1, v2, q7_28, q7_32, q7_49, q6_35, r28, r32, r35, hk]
theorem w4_1_no {H : AHeap} {q : Nat} {kd nd vt : Int} {t0 n0 s0 t1 n1 s1 t2 n2 s2 tm : Int} {h0 h1 nt sm : Bool} (lq : q < H.n) (hW : H.get q = .cells (wcs t0 n0 s0 t1 n1 s1 t2 n2 s2 h0 h1 (1) tm nt sm) 66 15 .fixed) (hk : kindR kd = 4) (hs : ¬ s1 = 3) :
    DoneW H q kd nd vt (wcs t0 n0 s0 t1 n1 s1 t2 n2 s2 h0 h1 1 tm nt sm) := by
  have e1 : ¬ q = H.n := by omega
  have e2 : ¬ H.n = q := by omega
  have e3 : q < H.n + 1 := by omega
  have e4 : q < H.n + 1 + 1 := by omega
  have e5 : ¬ q = H.n + 1 := by omega
  have e6 : ¬ H.n + 1 = q := by omega
  have z1 : ∀ z, z < H.n → ¬ z = H.n := fun z h => by omega
  have z2 : ∀ z, z < H.n → ¬ z = H.n + 1 := fun z h => by omega
  have l1 : H.n ≤ H.n + 1 := by omega
  have l2 : H.n ≤ H.n + 1 + 1 := by omega
  have v0 : IntKind.i64.wrap 0 = 0 := by rw [IntKind.wrap_i64]; omega
  have v1 : IntKind.i64.wrap 1 = 1 := by rw [IntKind.wrap_i64]; omega
  have v2 : IntKind.i64.wrap 2 = 2 := by rw [IntKind.wrap_i64]; omega
  unfold DoneW
  unfold wcs at hW ⊢
  unfold c39
  simp (maxSteps := 10000000) +contextual [go_sem, hW, lq, e1, e2, e3, e4, e5, e6, z1, z2, l1, l2, v0, v1, v2, q7_28, q7_32, q7_49, q6_35, r28, r32, r35, hk, hs]
theorem w4_1_yes {H : AHeap} {q : Nat} {kd nd vt : Int} {t0 n0 s0 t1 n1 s1 t2 n2 s2 tm : Int} {h0 h1 nt sm : Bool} (lq : q < H.n) (hW : H.get q = .cells (wcs t0 n0 s0 t1 n1 s1 t2 n2 s2 h0 h1 (1) tm nt sm) 66 15 .fixed) (hk : kindR kd = 4) (hs : s1 = 3) (hN : nextV t1 n1 3 tm 2 = (tm, n1 + 1, 2, 0)) :
    DoneW H q kd nd vt (wcs t0 n0 s0 tm (n1 + 1) 2 t2 n2 s2 h0 h1 1 tm false sm) := by
  have e1 : ¬ q = H.n := by omega
  have e2 : ¬ H.n = q := by omega
  have e3 : q < H.n + 1 := by omega
  have e4 : q < H.n + 1 + 1 := by omega
  have e5 : ¬ q = H.n + 1 := by omega
  have e6 : ¬ H.n + 1 = q := by omega
  have z1 : ∀ z, z < H.n → ¬ z = H.n := fun z h => by omega
  have z2 : ∀ z, z < H.n → ¬ z = H.n + 1 := fun z h => by omega
  have l1 : H.n ≤ H.n + 1 := by omega
  have l2 : H.n ≤ H.n + 1 + 1 := by omega
  have v0 : IntKind.i64.wrap 0 = 0 := by rw [IntKind.wrap_i64]; omega
  have v1 : IntKind.i64.wrap 1 = 1 := by rw [IntKind.wrap_i64]; omega
  have v2 : IntKind.i64.wrap 2 = 2 := by rw [IntKind.wrap_i64]; omega
  unfold DoneW
  unfold wcs at hW ⊢
  unfold c39
  subst hs
  simp (maxSteps := 10000000) +contextual [go_sem, hW, lq, e1, e2, e3, e4, e5, e6, z1, z2, l1, l2, v0, v1, v2, q7_28, q7_32, q7_49, q6_35, r28, r32, r35, hk, hN, c49]
theorem w5_1_no1 {H : AHeap} {q : Nat} {kd nd vt : Int} {t0 n0 s0 t1 n1 s1 t2 n2 s2 tm : Int} {h0 h1 nt sm : Bool} (lq : q < H.n) (hW : H.get q = .cells (wcs t0 n0 s0 t1 n1 s1 t2 n2 s2 h0 h1 (1) tm nt sm) 66 15 .fixed) (hk : kindR kd = 5) (hs : s1 = 3) :
    DoneW H q kd nd vt (wcs t0 n0 s0 t1 n1 s1 t2 n2 s2 h0 h1 1 tm nt sm) := by
  have e1 : ¬ q = H.n := by omega
  have e2 : ¬ H.n = q := by omega
  have e3 : q < H.n + 1 := by omega
  have e4 : q < H.n + 1 + 1 := by omega
  have e5 : ¬ q = H.n + 1 := by omega
  have e6 : ¬ H.n + 1 = q := by omega
  have z1 : ∀ z, z < H.n → ¬ z = H.n := fun z h => by omega
  have z2 : ∀ z, z < H.n → ¬ z = H.n + 1 := fun z h => by omega
  have l1 : H.n ≤ H.n + 1 := by omega
  have l2 : H.n ≤ H.n + 1 + 1 := by omega
  have v0 : IntKind.i64.wrap 0 = 0 := by rw [IntKind.wrap_i64]; omega
  have v1 : IntKind.i64.wrap 1 = 1 := by rw [IntKind.wrap_i64]; omega
  have v2 : IntKind.i64.wrap 2 = 2 := by rw [IntKind.wrap_i64]; omega
  unfold DoneW
  unfold wcs at hW ⊢
  unfold c39
  subst hs
  simp (maxSteps := 10000000) +contextual [go_sem, hW, lq, e1, e2, e3, e4, e5, e6, z1, z2, l1, l2, v0, v1, v2, q7_28, q7_32, q7_49, q6_35, r28, r32, r35, hk]
theorem w5_1_no2 {H : AHeap} {q : Nat} {kd nd vt : Int} {t0 n0 s0 t1 n1 s1 t2 n2 s2 tm : Int} {h0 h1 nt sm : Bool} (lq : q < H.n) (hW : H.get q = .cells (wcs t0 n0 s0 t1 n1 s1 t2 n2 s2 h0 h1 (1) tm nt sm) 66 15 .fixed) (hk : kindR kd = 5) (hs : ¬ s1 = 3) (hm : sm = false) :
    DoneW H q kd nd vt (wcs t0 n0 s0 t1 n1 s1 t2 n2 s2 h0 h1 1 tm nt sm) := by
  have e1 : ¬ q = H.n := by omega
  have e2 : ¬ H.n = q := by omega
  have e3 : q < H.n + 1 := by omega
  have e4 : q < H.n + 1 + 1 := by omega
  have e5 : ¬ q = H.n + 1 := by omega
  have e6 : ¬ H.n + 1 = q := by omega
  have z1 : ∀ z, z < H.n → ¬ z = H.n := fun z h => by omega
  have z2 : ∀ z, z < H.n → ¬ z = H.n + 1 := fun z h => by omega
  have l1 : H.n ≤ H.n + 1 := by omega
  have l2 : H.n ≤ H.n + 1 + 1 := by omega
  have v0 : IntKind.i64.wrap 0 = 0 := by rw [IntKind.wrap_i64]; omega
  have v1 : IntKind.i64.wrap 1 = 1 := by rw [IntKind.wrap_i64]; omega
  have v2 : IntKind.i64.wrap 2 = 2 := by rw [IntKind.wrap_i64]; omega
  unfold DoneW
  unfold wcs at hW ⊢
  unfold c39
  subst hm
  simp (maxSteps := 10000000) +contextual [go_sem, hW, lq, e1, e2, e3, e4, e5, e6, z1, z2, l1, l2, v0, v1, v2, q7_28, q7_32, q7_49, q6_35, r28, r32, r35, hk, hs]
theorem w5_1_yes {H : AHeap} {q : Nat} {kd nd vt : Int} {t0 n0 s0 t1 n1 s1 t2 n2 s2 tm : Int} {h0 h1 nt sm : Bool} (lq : q < H.n) (hW : H.get q = .cells (wcs t0 n0 s0 t1 n1 s1 t2 n2 s2 h0 h1 (1) tm nt sm) 66 15 .fixed) (hk : kindR kd = 5) (hs : ¬ s1 = 3) (hm : sm = true) (hN : nextV t1 n1 s1 tm 3 = (tm, n1 + 1, 3, 0)) :
    DoneW H q kd nd vt (wcs t0 n0 s0 tm (n1 + 1) 3 t2 n2 s2 h0 h1 1 tm false sm) := by
  have e1 : ¬ q = H.n := by omega
  have e2 : ¬ H.n = q := by omega
  have e3 : q < H.n + 1 := by omega
  have e4 : q < H.n + 1 + 1 := by omega
  have e5 : ¬ q = H.n + 1 := by omega
  have e6 : ¬ H.n + 1 = q := by omega
  have z1 : ∀ z, z < H.n → ¬ z = H.n := fun z h => by omega
  have z2 : ∀ z, z < H.n → ¬ z = H.n + 1 := fun z h => by omega
  have l1 : H.n ≤ H.n + 1 := by omega
  have l2 : H.n ≤ H.n + 1 + 1 := by omega
  have v0 : IntKind.i64.wrap 0 = 0 := by rw [IntKind.wrap_i64]; omega
  have v1 : IntKind.i64.wrap 1 = 1 := by rw [IntKind.wrap_i64]; omega
  have v2 : IntKind.i64.wrap 2 = 2 := by rw [IntKind.wrap_i64]; omega
  unfold DoneW
  unfold wcs at hW ⊢
  unfold c39
  subst hm
  simp (maxSteps := 10000000) +contextual [go_sem, hW, lq, e1, e2, e3, e4, e5, e6, z1, z2, l1, l2, v0, v1, v2, q7_28, q7_32, q7_49, q6_35, r28, r32, r35, hk, hs, hN, c49]
end Go.Eng.SeatA

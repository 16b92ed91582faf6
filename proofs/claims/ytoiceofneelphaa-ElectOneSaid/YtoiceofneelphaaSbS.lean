/- Layer 19: holds. -/
import Derived.Test.YtoiceofneelphaaSbT
set_option linter.unusedSimpArgs false
set_option linter.unusedVariables false
set_option maxHeartbeats 40000000
namespace Go.Eng.SeatB
open Go.Proofs
theorem iter_3 (f : ASt → Option (AEx × ASt)) (s : ASt) : iter f 3 s = iterK (f s) f 2 := (rfl)
theorem iter_2 (f : ASt → Option (AEx × ASt)) (s : ASt) : iter f 2 s = iterK (f s) f 1 := (rfl)
theorem iter_1 (f : ASt → Option (AEx × ASt)) (s : ASt) : iter f 1 s = iterK (f s) f 0 := (rfl)
theorem p5_75 (l : List AVal) (H : AHeap) : Φ5 75 l H = pspec rFrom l H := (rfl)
theorem p5_82 (l : List AVal) (H : AHeap) : Φ5 82 l H = pspec rLeft l H := (rfl)
theorem p5_83 (l : List AVal) (H : AHeap) : Φ5 83 l H = pspec rLeft l H := (rfl)
theorem p5_76 (l : List AVal) (H : AHeap) : Φ5 76 l H = pspec rAbove l H := (rfl)
theorem s81 : Sound Try.prog 81 (denF Φ5 none2 c81) := fun_sound ok5 none_soundD mixed Try.func81 cal81 comp81
theorem s32 : Sound Try.prog 32 (denF Φ5 none2 c32) := fun_sound ok5 none_soundD mixed Try.func32 cal32 comp32
theorem s38 : Sound Try.prog 38 (denF Φ5 none2 c38) := fun_sound ok5 none_soundD mixed Try.func38 cal38 comp38
theorem s35 : Sound Try.prog 35 (denF Φ5 none2 c35) := fun_sound ok5 none_soundD mixed Try.func35 cal35 comp35
def Φ7 : Phi := updP (updP (updP (updP Φ5 81 (denF Φ5 none2 c81)) 32 (denF Φ5 none2 c32)) 38 (denF Φ5 none2 c38)) 35 (denF Φ5 none2 c35)
theorem ok7 : ∀ f, Sound Try.prog f (Φ7 f) := updP_ok (updP_ok (updP_ok (updP_ok ok5 s81) s32) s38) s35
theorem p7_81 (l : List AVal) (H : AHeap) : Φ7 81 l H = denF Φ5 none2 c81 l H := (rfl)
theorem p7_32 (l : List AVal) (H : AHeap) : Φ7 32 l H = denF Φ5 none2 c32 l H := (rfl)
theorem p7_38 (l : List AVal) (H : AHeap) : Φ7 38 l H = denF Φ5 none2 c38 l H := (rfl)
theorem p7_35 (l : List AVal) (H : AHeap) : Φ7 35 l H = denF Φ5 none2 c35 l H := (rfl)
theorem p7_77 (l : List AVal) (H : AHeap) : Φ7 77 l H = pspec rRight l H := (rfl)
theorem p7_75 (l : List AVal) (H : AHeap) : Φ7 75 l H = pspec rFrom l H := (rfl)
theorem p7_72 (l : List AVal) (H : AHeap) : Φ7 72 l H = pspec rIn l H := (rfl)
theorem p7_73 (l : List AVal) (H : AHeap) : Φ7 73 l H = pspec rIn l H := (rfl)
theorem p7_74 (l : List AVal) (H : AHeap) : Φ7 74 l H = pspec rIn l H := (rfl)
theorem p7_76 (l : List AVal) (H : AHeap) : Φ7 76 l H = pspec rAbove l H := (rfl)
theorem p7_78 (l : List AVal) (H : AHeap) : Φ7 78 l H = pspec rAbove l H := (rfl)
theorem p7_71 (l : List AVal) (H : AHeap) : Φ7 71 l H = pspec rMay l H := (rfl)
def mx (a b : Int) : Int := if a < b then b else a
theorem give81_0n {H : AHeap} {qa : Nat} {node term st : Int} {s1 s2 : AVal} (hA : H.get qa = .cells [.bool true, .int .i64 node, .int .i64 term, .nilp, s1, s2] 52 6 .fixed) (hq : qa < H.n) :
    denF Φ5 none2 c81 [.ptr qa 0, .int .i64 0, .int .i64 st] H = some (.tup [], (H.push (.cells [.int .i64 st] 3 1 .fixed)).set qa (.cells [.bool true, .int .i64 node, .int .i64 term, .ptr H.n 0, s1, s2] 52 6 .fixed)) := by
  have h1 : ¬ qa = H.n := by omega
  have h2 : ¬ H.n = qa := by omega
  have h5 : qa < H.n + 1 := by omega
  have h6 : qa < H.n + 1 + 1 := by omega
  unfold c81
  simp (maxSteps := 10000000) +contextual [go_sem, hA, hq, h1, h2, h5, h6]
theorem give81_0l {H : AHeap} {qa w : Nat} {node term st t : Int} {s1 s2 : AVal} (hA : H.get qa = .cells [.bool true, .int .i64 node, .int .i64 term, .ptr w 0, s1, s2] 52 6 .fixed) (hq : qa < H.n) (hW : H.get w = .cells [.int .i64 t] 3 1 .fixed) (hw : w < H.n) (ht : t < st) :
    denF Φ5 none2 c81 [.ptr qa 0, .int .i64 0, .int .i64 st] H = some (.tup [], (H.push (.cells [.int .i64 st] 3 1 .fixed)).set qa (.cells [.bool true, .int .i64 node, .int .i64 term, .ptr H.n 0, s1, s2] 52 6 .fixed)) := by
  have h1 : ¬ qa = H.n := by omega
  have h2 : ¬ H.n = qa := by omega
  have h5 : qa < H.n + 1 := by omega
  have h6 : qa < H.n + 1 + 1 := by omega
  have h3 : ¬ w = H.n := by omega
  have h4 : ¬ H.n = w := by omega
  have h7 : w < H.n + 1 := by omega
  unfold c81
  simp (maxSteps := 10000000) +contextual [go_sem, hA, hW, hq, hw, h1, h2, h3, h4, h5, h6, h7, ht]
theorem give81_0g {H : AHeap} {qa w : Nat} {node term st t : Int} {s1 s2 : AVal} (hA : H.get qa = .cells [.bool true, .int .i64 node, .int .i64 term, .ptr w 0, s1, s2] 52 6 .fixed) (hq : qa < H.n) (hW : H.get w = .cells [.int .i64 t] 3 1 .fixed) (hw : w < H.n) (ht : ¬ t < st) :
    denF Φ5 none2 c81 [.ptr qa 0, .int .i64 0, .int .i64 st] H = some (.tup [], H.push (.cells [.int .i64 st] 3 1 .fixed)) := by
  have h1 : ¬ qa = H.n := by omega
  have h2 : ¬ H.n = qa := by omega
  have h5 : qa < H.n + 1 := by omega
  have h6 : qa < H.n + 1 + 1 := by omega
  have h3 : ¬ w = H.n := by omega
  have h4 : ¬ H.n = w := by omega
  have h7 : w < H.n + 1 := by omega
  unfold c81
  simp (maxSteps := 10000000) +contextual [go_sem, hA, hW, hq, hw, h1, h2, h3, h4, h5, h6, h7, ht]
theorem give35_0 {H : AHeap} {qa : Nat} {node term st t0 t1 t2 : Int} (hA : H.get qa = .cells [.int .i64 node, .int .i64 term, .int .i64 t0, .int .i64 t1, .int .i64 t2] 134 5 .fixed) (hq : qa < H.n) (hk : ¬ 0 = node) (hs : inL st = true) :
    denF Φ5 none2 c35 [.ptr qa 0, .int .i64 0, .int .i64 st] H = some (.int .i64 0, H.set qa (.cells [.int .i64 node, .int .i64 term, .int .i64 (mx t0 st), .int .i64 t1, .int .i64 t2] 134 5 .fixed)) := by
  have h1 : ¬ qa = H.n := by omega
  have h2 : ¬ H.n = qa := by omega
  have h5 : qa < H.n + 1 := by omega
  have h6 : qa < H.n + 1 + 1 := by omega
  have hk' : ¬ node = 0 := fun h => hk h.symm
  unfold c35 mx
  simp (maxSteps := 10000000) +contextual [go_sem, hA, hq, h1, h2, h5, h6, hk, hk', hs, p5_74, rIn]
theorem step32_0n {H : AHeap} {qa : Nat} {node term now acc : Int} {s1 s2 : AVal} (hA : H.get qa = .cells [.bool true, .int .i64 node, .int .i64 term, .nilp, s1, s2] 52 6 .fixed) :
    aden Φ5 b32_0 ⟨[(1, .int .i64 now), (5, .int .i64 acc), (12, .ptr qa 3), (13, .int .i64 0)], H, []⟩ = some (.normal, ⟨[(1, .int .i64 now), (5, .int .i64 acc), (12, .ptr qa 3), (13, .int .i64 1)], H, []⟩) := by
  unfold b32_0
  simp (maxSteps := 10000000) +contextual [go_sem, hA, IntKind.wrap_i64]
theorem step32_0p {H : AHeap} {qa w : Nat} {node term now acc t : Int} {s1 s2 : AVal} (hA : H.get qa = .cells [.bool true, .int .i64 node, .int .i64 term, .ptr w 0, s1, s2] 52 6 .fixed) (hW : H.get w = .cells [.int .i64 t] 3 1 .fixed) :
    aden Φ5 b32_0 ⟨[(1, .int .i64 now), (5, .int .i64 acc), (12, .ptr qa 3), (13, .int .i64 0)], H, []⟩ = some (.normal, ⟨[(1, .int .i64 now), (5, .int .i64 (mx acc (leftL t now))), (12, .ptr qa 3), (13, .int .i64 1)], H, []⟩) := by
  unfold b32_0 mx
  simp (maxSteps := 10000000) +contextual [go_sem, hA, hW, IntKind.wrap_i64, p5_82, rLeft]
theorem step38_0 {H : AHeap} {qa : Nat} {node term now acc t0 t1 t2 : Int} (hA : H.get qa = .cells [.int .i64 node, .int .i64 term, .int .i64 t0, .int .i64 t1, .int .i64 t2] 134 5 .fixed) :
    aden Φ5 b38_0 ⟨[(0, .ptr qa 0), (1, .int .i64 now), (5, .int .i64 acc), (6, .int .i64 0)], H, []⟩ = some (.normal, ⟨[(0, .ptr qa 0), (1, .int .i64 now), (5, .int .i64 (mx acc (leftL t0 now))), (6, .int .i64 1)], H, []⟩) := by
  unfold b38_0 mx
  simp (maxSteps := 10000000) +contextual [go_sem, hA, IntKind.wrap_i64, p5_83, rLeft]
theorem give81_1n {H : AHeap} {qa : Nat} {node term st : Int} {s0 s2 : AVal} (hA : H.get qa = .cells [.bool true, .int .i64 node, .int .i64 term, s0, .nilp, s2] 52 6 .fixed) (hq : qa < H.n) :
    denF Φ5 none2 c81 [.ptr qa 0, .int .i64 1, .int .i64 st] H = some (.tup [], (H.push (.cells [.int .i64 st] 3 1 .fixed)).set qa (.cells [.bool true, .int .i64 node, .int .i64 term, s0, .ptr H.n 0, s2] 52 6 .fixed)) := by
  have h1 : ¬ qa = H.n := by omega
  have h2 : ¬ H.n = qa := by omega
  have h5 : qa < H.n + 1 := by omega
  have h6 : qa < H.n + 1 + 1 := by omega
  unfold c81
  simp (maxSteps := 10000000) +contextual [go_sem, hA, hq, h1, h2, h5, h6]
theorem give81_1l {H : AHeap} {qa w : Nat} {node term st t : Int} {s0 s2 : AVal} (hA : H.get qa = .cells [.bool true, .int .i64 node, .int .i64 term, s0, .ptr w 0, s2] 52 6 .fixed) (hq : qa < H.n) (hW : H.get w = .cells [.int .i64 t] 3 1 .fixed) (hw : w < H.n) (ht : t < st) :
    denF Φ5 none2 c81 [.ptr qa 0, .int .i64 1, .int .i64 st] H = some (.tup [], (H.push (.cells [.int .i64 st] 3 1 .fixed)).set qa (.cells [.bool true, .int .i64 node, .int .i64 term, s0, .ptr H.n 0, s2] 52 6 .fixed)) := by
  have h1 : ¬ qa = H.n := by omega
  have h2 : ¬ H.n = qa := by omega
  have h5 : qa < H.n + 1 := by omega
  have h6 : qa < H.n + 1 + 1 := by omega
  have h3 : ¬ w = H.n := by omega
  have h4 : ¬ H.n = w := by omega
  have h7 : w < H.n + 1 := by omega
  unfold c81
  simp (maxSteps := 10000000) +contextual [go_sem, hA, hW, hq, hw, h1, h2, h3, h4, h5, h6, h7, ht]
theorem give81_1g {H : AHeap} {qa w : Nat} {node term st t : Int} {s0 s2 : AVal} (hA : H.get qa = .cells [.bool true, .int .i64 node, .int .i64 term, s0, .ptr w 0, s2] 52 6 .fixed) (hq : qa < H.n) (hW : H.get w = .cells [.int .i64 t] 3 1 .fixed) (hw : w < H.n) (ht : ¬ t < st) :
    denF Φ5 none2 c81 [.ptr qa 0, .int .i64 1, .int .i64 st] H = some (.tup [], H.push (.cells [.int .i64 st] 3 1 .fixed)) := by
  have h1 : ¬ qa = H.n := by omega
  have h2 : ¬ H.n = qa := by omega
  have h5 : qa < H.n + 1 := by omega
  have h6 : qa < H.n + 1 + 1 := by omega
  have h3 : ¬ w = H.n := by omega
  have h4 : ¬ H.n = w := by omega
  have h7 : w < H.n + 1 := by omega
  unfold c81
  simp (maxSteps := 10000000) +contextual [go_sem, hA, hW, hq, hw, h1, h2, h3, h4, h5, h6, h7, ht]
theorem give35_1 {H : AHeap} {qa : Nat} {node term st t0 t1 t2 : Int} (hA : H.get qa = .cells [.int .i64 node, .int .i64 term, .int .i64 t0, .int .i64 t1, .int .i64 t2] 134 5 .fixed) (hq : qa < H.n) (hk : ¬ 1 = node) (hs : inL st = true) :
    denF Φ5 none2 c35 [.ptr qa 0, .int .i64 1, .int .i64 st] H = some (.int .i64 0, H.set qa (.cells [.int .i64 node, .int .i64 term, .int .i64 t0, .int .i64 (mx t1 st), .int .i64 t2] 134 5 .fixed)) := by
  have h1 : ¬ qa = H.n := by omega
  have h2 : ¬ H.n = qa := by omega
  have h5 : qa < H.n + 1 := by omega
  have h6 : qa < H.n + 1 + 1 := by omega
  have hk' : ¬ node = 1 := fun h => hk h.symm
  unfold c35 mx
  simp (maxSteps := 10000000) +contextual [go_sem, hA, hq, h1, h2, h5, h6, hk, hk', hs, p5_74, rIn]
theorem step32_1n {H : AHeap} {qa : Nat} {node term now acc : Int} {s0 s2 : AVal} (hA : H.get qa = .cells [.bool true, .int .i64 node, .int .i64 term, s0, .nilp, s2] 52 6 .fixed) :
    aden Φ5 b32_0 ⟨[(1, .int .i64 now), (5, .int .i64 acc), (12, .ptr qa 3), (13, .int .i64 1)], H, []⟩ = some (.normal, ⟨[(1, .int .i64 now), (5, .int .i64 acc), (12, .ptr qa 3), (13, .int .i64 2)], H, []⟩) := by
  unfold b32_0
  simp (maxSteps := 10000000) +contextual [go_sem, hA, IntKind.wrap_i64]
theorem step32_1p {H : AHeap} {qa w : Nat} {node term now acc t : Int} {s0 s2 : AVal} (hA : H.get qa = .cells [.bool true, .int .i64 node, .int .i64 term, s0, .ptr w 0, s2] 52 6 .fixed) (hW : H.get w = .cells [.int .i64 t] 3 1 .fixed) :
    aden Φ5 b32_0 ⟨[(1, .int .i64 now), (5, .int .i64 acc), (12, .ptr qa 3), (13, .int .i64 1)], H, []⟩ = some (.normal, ⟨[(1, .int .i64 now), (5, .int .i64 (mx acc (leftL t now))), (12, .ptr qa 3), (13, .int .i64 2)], H, []⟩) := by
  unfold b32_0 mx
  simp (maxSteps := 10000000) +contextual [go_sem, hA, hW, IntKind.wrap_i64, p5_82, rLeft]
theorem step38_1 {H : AHeap} {qa : Nat} {node term now acc t0 t1 t2 : Int} (hA : H.get qa = .cells [.int .i64 node, .int .i64 term, .int .i64 t0, .int .i64 t1, .int .i64 t2] 134 5 .fixed) :
    aden Φ5 b38_0 ⟨[(0, .ptr qa 0), (1, .int .i64 now), (5, .int .i64 acc), (6, .int .i64 1)], H, []⟩ = some (.normal, ⟨[(0, .ptr qa 0), (1, .int .i64 now), (5, .int .i64 (mx acc (leftL t1 now))), (6, .int .i64 2)], H, []⟩) := by
  unfold b38_0 mx
  simp (maxSteps := 10000000) +contextual [go_sem, hA, IntKind.wrap_i64, p5_83, rLeft]
theorem give81_2n {H : AHeap} {qa : Nat} {node term st : Int} {s0 s1 : AVal} (hA : H.get qa = .cells [.bool true, .int .i64 node, .int .i64 term, s0, s1, .nilp] 52 6 .fixed) (hq : qa < H.n) :
    denF Φ5 none2 c81 [.ptr qa 0, .int .i64 2, .int .i64 st] H = some (.tup [], (H.push (.cells [.int .i64 st] 3 1 .fixed)).set qa (.cells [.bool true, .int .i64 node, .int .i64 term, s0, s1, .ptr H.n 0] 52 6 .fixed)) := by
  have h1 : ¬ qa = H.n := by omega
  have h2 : ¬ H.n = qa := by omega
  have h5 : qa < H.n + 1 := by omega
  have h6 : qa < H.n + 1 + 1 := by omega
  unfold c81
  simp (maxSteps := 10000000) +contextual [go_sem, hA, hq, h1, h2, h5, h6]
theorem give81_2l {H : AHeap} {qa w : Nat} {node term st t : Int} {s0 s1 : AVal} (hA : H.get qa = .cells [.bool true, .int .i64 node, .int .i64 term, s0, s1, .ptr w 0] 52 6 .fixed) (hq : qa < H.n) (hW : H.get w = .cells [.int .i64 t] 3 1 .fixed) (hw : w < H.n) (ht : t < st) :
    denF Φ5 none2 c81 [.ptr qa 0, .int .i64 2, .int .i64 st] H = some (.tup [], (H.push (.cells [.int .i64 st] 3 1 .fixed)).set qa (.cells [.bool true, .int .i64 node, .int .i64 term, s0, s1, .ptr H.n 0] 52 6 .fixed)) := by
  have h1 : ¬ qa = H.n := by omega
  have h2 : ¬ H.n = qa := by omega
  have h5 : qa < H.n + 1 := by omega
  have h6 : qa < H.n + 1 + 1 := by omega
  have h3 : ¬ w = H.n := by omega
  have h4 : ¬ H.n = w := by omega
  have h7 : w < H.n + 1 := by omega
  unfold c81
  simp (maxSteps := 10000000) +contextual [go_sem, hA, hW, hq, hw, h1, h2, h3, h4, h5, h6, h7, ht]
theorem give81_2g {H : AHeap} {qa w : Nat} {node term st t : Int} {s0 s1 : AVal} (hA : H.get qa = .cells [.bool true, .int .i64 node, .int .i64 term, s0, s1, .ptr w 0] 52 6 .fixed) (hq : qa < H.n) (hW : H.get w = .cells [.int .i64 t] 3 1 .fixed) (hw : w < H.n) (ht : ¬ t < st) :
    denF Φ5 none2 c81 [.ptr qa 0, .int .i64 2, .int .i64 st] H = some (.tup [], H.push (.cells [.int .i64 st] 3 1 .fixed)) := by
  have h1 : ¬ qa = H.n := by omega
  have h2 : ¬ H.n = qa := by omega
  have h5 : qa < H.n + 1 := by omega
  have h6 : qa < H.n + 1 + 1 := by omega
  have h3 : ¬ w = H.n := by omega
  have h4 : ¬ H.n = w := by omega
  have h7 : w < H.n + 1 := by omega
  unfold c81
  simp (maxSteps := 10000000) +contextual [go_sem, hA, hW, hq, hw, h1, h2, h3, h4, h5, h6, h7, ht]
theorem give35_2 {H : AHeap} {qa : Nat} {node term st t0 t1 t2 : Int} (hA : H.get qa = .cells [.int .i64 node, .int .i64 term, .int .i64 t0, .int .i64 t1, .int .i64 t2] 134 5 .fixed) (hq : qa < H.n) (hk : ¬ 2 = node) (hs : inL st = true) :
    denF Φ5 none2 c35 [.ptr qa 0, .int .i64 2, .int .i64 st] H = some (.int .i64 0, H.set qa (.cells [.int .i64 node, .int .i64 term, .int .i64 t0, .int .i64 t1, .int .i64 (mx t2 st)] 134 5 .fixed)) := by
  have h1 : ¬ qa = H.n := by omega
  have h2 : ¬ H.n = qa := by omega
  have h5 : qa < H.n + 1 := by omega
  have h6 : qa < H.n + 1 + 1 := by omega
  have hk' : ¬ node = 2 := fun h => hk h.symm
  unfold c35 mx
  simp (maxSteps := 10000000) +contextual [go_sem, hA, hq, h1, h2, h5, h6, hk, hk', hs, p5_74, rIn]
theorem step32_2n {H : AHeap} {qa : Nat} {node term now acc : Int} {s0 s1 : AVal} (hA : H.get qa = .cells [.bool true, .int .i64 node, .int .i64 term, s0, s1, .nilp] 52 6 .fixed) :
    aden Φ5 b32_0 ⟨[(1, .int .i64 now), (5, .int .i64 acc), (12, .ptr qa 3), (13, .int .i64 2)], H, []⟩ = some (.normal, ⟨[(1, .int .i64 now), (5, .int .i64 acc), (12, .ptr qa 3), (13, .int .i64 3)], H, []⟩) := by
  unfold b32_0
  simp (maxSteps := 10000000) +contextual [go_sem, hA, IntKind.wrap_i64]
theorem step32_2p {H : AHeap} {qa w : Nat} {node term now acc t : Int} {s0 s1 : AVal} (hA : H.get qa = .cells [.bool true, .int .i64 node, .int .i64 term, s0, s1, .ptr w 0] 52 6 .fixed) (hW : H.get w = .cells [.int .i64 t] 3 1 .fixed) :
    aden Φ5 b32_0 ⟨[(1, .int .i64 now), (5, .int .i64 acc), (12, .ptr qa 3), (13, .int .i64 2)], H, []⟩ = some (.normal, ⟨[(1, .int .i64 now), (5, .int .i64 (mx acc (leftL t now))), (12, .ptr qa 3), (13, .int .i64 3)], H, []⟩) := by
  unfold b32_0 mx
  simp (maxSteps := 10000000) +contextual [go_sem, hA, hW, IntKind.wrap_i64, p5_82, rLeft]
theorem step38_2 {H : AHeap} {qa : Nat} {node term now acc t0 t1 t2 : Int} (hA : H.get qa = .cells [.int .i64 node, .int .i64 term, .int .i64 t0, .int .i64 t1, .int .i64 t2] 134 5 .fixed) :
    aden Φ5 b38_0 ⟨[(0, .ptr qa 0), (1, .int .i64 now), (5, .int .i64 acc), (6, .int .i64 2)], H, []⟩ = some (.normal, ⟨[(0, .ptr qa 0), (1, .int .i64 now), (5, .int .i64 (mx acc (leftL t2 now))), (6, .int .i64 3)], H, []⟩) := by
  unfold b38_0 mx
  simp (maxSteps := 10000000) +contextual [go_sem, hA, IntKind.wrap_i64, p5_83, rLeft]
theorem last32 {H : AHeap} {qa : Nat} {now acc : Int} :
    aden Φ5 b32_0 ⟨[(1, .int .i64 now), (5, .int .i64 acc), (12, .ptr qa 3), (13, .int .i64 3)], H, []⟩ = some (.exit 0, ⟨[(1, .int .i64 now), (5, .int .i64 acc), (12, .ptr qa 3), (13, .int .i64 3), (14, .bool false)], H, []⟩) := by
  unfold b32_0
  simp (maxSteps := 10000000) +contextual [go_sem]
theorem last38 {H : AHeap} {qa : Nat} {now acc : Int} :
    aden Φ5 b38_0 ⟨[(0, .ptr qa 0), (1, .int .i64 now), (5, .int .i64 acc), (6, .int .i64 3)], H, []⟩ = some (.exit 0, ⟨[(0, .ptr qa 0), (1, .int .i64 now), (5, .int .i64 acc), (6, .int .i64 3), (8, .bool false)], H, []⟩) := by
  unfold b38_0
  simp (maxSteps := 10000000) +contextual [go_sem]
/-- What a stamp's place has, and what it stands for. -/
def slotOK (H : AHeap) (qa qb : Nat) (s : AVal) (t : Int) : Prop := (s = .nilp ∧ t = -1) ∨ ∃ w, s = .ptr w 0 ∧ w < H.n ∧ w ≠ qa ∧ w ≠ qb ∧ H.get w = .cells [.int .i64 t] 3 1 .fixed ∧ 0 ≤ t
theorem left_neg (now : Int) : leftL (-1) now = 0 := by simp [leftL, inL]
theorem mx_zero {a : Int} (h : 0 ≤ a) : mx a 0 = a := by unfold mx; rw [if_neg (by omega)]
theorem mx_nonneg {a : Int} (b : Int) (h : 0 ≤ a) : 0 ≤ mx a b := by unfold mx; split <;> omega
/-- A hold, and what the document has of it. -/
structure JH (H : AHeap) (qa qb : Nat) (node term : Int) (s0 s1 s2 : AVal) (t0 t1 t2 u0 u1 u2 : Int) : Prop where
  ha : qa < H.n
  hq : qb < H.n
  aq : qa ≠ qb
  A : H.get qa = .cells [.bool true, .int .i64 node, .int .i64 term, s0, s1, s2] 52 6 .fixed
  B : H.get qb = .cells [.int .i64 node, .int .i64 term, .int .i64 u0, .int .i64 u1, .int .i64 u2] 134 5 .fixed
  S0 : slotOK H qa qb s0 t0
  S1 : slotOK H qa qb s1 t1
  S2 : slotOK H qa qb s2 t2
def left3 (t0 t1 t2 now : Int) : Int := mx (mx (mx 0 (leftL t0 now)) (leftL t1 now)) (leftL t2 now)
theorem JH.step0 {H : AHeap} {qa qb : Nat} {node term : Int} {s0 s1 s2 : AVal} {t0 t1 t2 u0 u1 u2 : Int} (J : JH H qa qb node term s0 s1 s2 t0 t1 t2 u0 u1 u2) (now : Int) {acc : Int} (h : 0 ≤ acc) :
    aden Φ5 b32_0 ⟨[(1, .int .i64 now), (5, .int .i64 acc), (12, .ptr qa 3), (13, .int .i64 0)], H, []⟩ = some (.normal, ⟨[(1, .int .i64 now), (5, .int .i64 (mx acc (leftL t0 now))), (12, .ptr qa 3), (13, .int .i64 1)], H, []⟩) := by
  rcases J.S0 with ⟨rfl, rfl⟩ | ⟨w, rfl, _, _, _, hW, _⟩
  · rw [left_neg, mx_zero h]; exact step32_0n J.A
  · exact step32_0p J.A hW
theorem JH.step1 {H : AHeap} {qa qb : Nat} {node term : Int} {s0 s1 s2 : AVal} {t0 t1 t2 u0 u1 u2 : Int} (J : JH H qa qb node term s0 s1 s2 t0 t1 t2 u0 u1 u2) (now : Int) {acc : Int} (h : 0 ≤ acc) :
    aden Φ5 b32_0 ⟨[(1, .int .i64 now), (5, .int .i64 acc), (12, .ptr qa 3), (13, .int .i64 1)], H, []⟩ = some (.normal, ⟨[(1, .int .i64 now), (5, .int .i64 (mx acc (leftL t1 now))), (12, .ptr qa 3), (13, .int .i64 2)], H, []⟩) := by
  rcases J.S1 with ⟨rfl, rfl⟩ | ⟨w, rfl, _, _, _, hW, _⟩
  · rw [left_neg, mx_zero h]; exact step32_1n J.A
  · exact step32_1p J.A hW
theorem JH.step2 {H : AHeap} {qa qb : Nat} {node term : Int} {s0 s1 s2 : AVal} {t0 t1 t2 u0 u1 u2 : Int} (J : JH H qa qb node term s0 s1 s2 t0 t1 t2 u0 u1 u2) (now : Int) {acc : Int} (h : 0 ≤ acc) :
    aden Φ5 b32_0 ⟨[(1, .int .i64 now), (5, .int .i64 acc), (12, .ptr qa 3), (13, .int .i64 2)], H, []⟩ = some (.normal, ⟨[(1, .int .i64 now), (5, .int .i64 (mx acc (leftL t2 now))), (12, .ptr qa 3), (13, .int .i64 3)], H, []⟩) := by
  rcases J.S2 with ⟨rfl, rfl⟩ | ⟨w, rfl, _, _, _, hW, _⟩
  · rw [left_neg, mx_zero h]; exact step32_2n J.A
  · exact step32_2p J.A hW
theorem left32 {H : AHeap} {qa qb : Nat} {node term : Int} {s0 s1 s2 : AVal} {t0 t1 t2 : Int} (J : JH H qa qb node term s0 s1 s2 t0 t1 t2 t0 t1 t2) (now : Int) :
    denF Φ5 none2 c32 [.ptr qa 0, .int .i64 now] H = some (.int .i64 (left3 t0 t1 t2 now), H) := by
  have h : iter (aden Φ5 b32_0) (0 + 1 + 1 + 1 + 1) ⟨[(1, .int .i64 now), (5, .int .i64 0), (12, .ptr qa 3), (13, .int .i64 0)], H, []⟩ = some (.exit 0, ⟨[(1, .int .i64 now), (5, .int .i64 (left3 t0 t1 t2 now)), (12, .ptr qa 3), (13, .int .i64 3), (14, .bool false)], H, []⟩) := by
    rw [iter_succ, J.step0 now (by omega), iterK_n, iter_succ, J.step1 now (mx_nonneg _ (by omega)), iterK_n, iter_succ, J.step2 now (mx_nonneg _ (mx_nonneg _ (by omega))), iterK_n, iter_succ]
    exact congrArg (fun x => iterK x _ _) last32
  have h := iter_mono h (show 0 + 1 + 1 + 1 + 1 ≤ fuel by unfold fuel; omega)
  unfold c32
  simp (maxSteps := 10000000) +contextual [go_sem, h, J.A]
theorem left38 {H : AHeap} {qa qb : Nat} {node term : Int} {s0 s1 s2 : AVal} {t0 t1 t2 : Int} (J : JH H qa qb node term s0 s1 s2 t0 t1 t2 t0 t1 t2) (now : Int) :
    denF Φ5 none2 c38 [.ptr qb 0, .int .i64 now] H = some (.int .i64 (left3 t0 t1 t2 now), H) := by
  have h : iter (aden Φ5 b38_0) (0 + 1 + 1 + 1 + 1) ⟨[(0, .ptr qb 0), (1, .int .i64 now), (5, .int .i64 0), (6, .int .i64 0)], H, []⟩ = some (.exit 0, ⟨[(0, .ptr qb 0), (1, .int .i64 now), (5, .int .i64 (left3 t0 t1 t2 now)), (6, .int .i64 3), (8, .bool false)], H, []⟩) := by
    rw [iter_succ, step38_0 J.B, iterK_n, iter_succ, step38_1 J.B, iterK_n, iter_succ, step38_2 J.B, iterK_n, iter_succ]
    exact congrArg (fun x => iterK x _ _) last38
  have h := iter_mono h (show 0 + 1 + 1 + 1 + 1 ≤ fuel by unfold fuel; omega)
  unfold c38
  simp (maxSteps := 10000000) +contextual [go_sem, h]
theorem slot_push {H : AHeap} {qa qb : Nat} {s : AVal} {t : Int} (x : ABlk) (h : slotOK H qa qb s t) : slotOK (H.push x) qa qb s t := by
  rcases h with h | ⟨w, h1, h2, h3, h4, h5, h6⟩
  · exact .inl h
  · exact .inr ⟨w, h1, by simp; omega, h3, h4, by rw [AHeap.get_push, if_neg (by omega)]; exact h5, h6⟩
theorem slot_set {H : AHeap} {qa qb q : Nat} {s : AVal} {t : Int} (x : ABlk) (hq : q = qa ∨ q = qb) (h : slotOK H qa qb s t) : slotOK (H.set q x) qa qb s t := by
  rcases h with h | ⟨w, h1, h2, h3, h4, h5, h6⟩
  · exact .inl h
  · exact .inr ⟨w, h1, h2, h3, h4, by rw [AHeap.get_set, if_neg (by rcases hq with rfl | rfl <;> assumption)]; exact h5, h6⟩
theorem JH.push {H : AHeap} {qa qb : Nat} {node term : Int} {s0 s1 s2 : AVal} {t0 t1 t2 u0 u1 u2 : Int} (J : JH H qa qb node term s0 s1 s2 t0 t1 t2 u0 u1 u2) (x : ABlk) : JH (H.push x) qa qb node term s0 s1 s2 t0 t1 t2 u0 u1 u2 := by
  obtain ⟨ha, hq, aq, A, B, S0, S1, S2⟩ := J
  exact ⟨by simp; omega, by simp; omega, aq, by rw [AHeap.get_push, if_neg (by omega)]; exact A, by rw [AHeap.get_push, if_neg (by omega)]; exact B, slot_push x S0, slot_push x S1, slot_push x S2⟩
/-- What else is left as it is. -/
def Keep (H H' : AHeap) (qa qb : Nat) : Prop := H.n ≤ H'.n ∧ ∀ x, x < H.n → x ≠ qa → x ≠ qb → H'.get x = H.get x
theorem Keep.push (H : AHeap) (x : ABlk) (qa qb : Nat) : Keep H (H.push x) qa qb := ⟨by simp, fun y hy _ _ => by rw [AHeap.get_push, if_neg (by omega)]⟩
theorem Keep.trans {H H' H2 : AHeap} {qa qb : Nat} (h : Keep H H' qa qb) (k : Keep H' H2 qa qb) : Keep H H2 qa qb := ⟨Nat.le_trans h.1 k.1, fun x hx a b => (k.2 x (Nat.lt_of_lt_of_le hx h.1) a b).trans (h.2 x hx a b)⟩
theorem Keep.setb (H : AHeap) (x : ABlk) (qa qb : Nat) : Keep H (H.set qb x) qa qb := ⟨Nat.le_refl _, fun y _ _ h => by rw [AHeap.get_set, if_neg h]⟩
theorem Keep.seta (H : AHeap) (x : ABlk) (qa qb : Nat) : Keep H (H.set qa x) qa qb := ⟨Nat.le_refl _, fun y _ h _ => by rw [AHeap.get_set, if_neg h]⟩
theorem JH.giveA0 {H : AHeap} {qa qb : Nat} {node term : Int} {s0 s1 s2 : AVal} {t0 t1 t2 u0 u1 u2 : Int} (J : JH H qa qb node term s0 s1 s2 t0 t1 t2 u0 u1 u2) {st : Int} (hs : inL st = true) :
    ∃ H1 s0' s1' s2', denF Φ5 none2 c81 [.ptr qa 0, .int .i64 0, .int .i64 st] H = some (.tup [], H1) ∧ Keep H H1 qa qb ∧ JH H1 qa qb node term s0' s1' s2' (mx t0 st) t1 t2 u0 u1 u2 := by
  have h0 : 0 ≤ st := by simp only [inL, Bool.and_eq_true, decide_eq_true_eq] at hs; exact hs.1
  have ha := J.ha
  have hq := J.hq
  have set : ∀ (e : mx t0 st = st) (hg : denF Φ5 none2 c81 [.ptr qa 0, .int .i64 0, .int .i64 st] H = some (.tup [], ((H.push (.cells [.int .i64 st] 3 1 .fixed)).set qa (.cells [.bool true, .int .i64 node, .int .i64 term, .ptr H.n 0, s1, s2] 52 6 .fixed)))), ∃ H1 s0' s1' s2', denF Φ5 none2 c81 [.ptr qa 0, .int .i64 0, .int .i64 st] H = some (.tup [], H1) ∧ Keep H H1 qa qb ∧ JH H1 qa qb node term s0' s1' s2' (mx t0 st) t1 t2 u0 u1 u2 := by
    intro e hg
    have J1 := J.push (.cells [.int .i64 st] 3 1 .fixed)
    have n1 : ¬ H.n = qa := by omega
    have n2 : ¬ H.n = qb := by omega
    have k1 : Keep H ((H.push (.cells [.int .i64 st] 3 1 .fixed)).set qa (.cells [.bool true, .int .i64 node, .int .i64 term, .ptr H.n 0, s1, s2] 52 6 .fixed)) qa qb := (Keep.push H _ qa qb).trans (Keep.seta _ _ qa qb)
    refine ⟨_, .ptr H.n 0, s1, s2, hg, k1, by simp; omega, by simp; omega, J.aq, by rw [AHeap.get_set, if_pos rfl], by rw [AHeap.get_set, if_neg (Ne.symm J.aq)]; exact J1.B, .inr ⟨H.n, rfl, by simp, n1, n2, by rw [e, AHeap.get_set, if_neg n1, AHeap.get_push, if_pos rfl], by omega⟩, slot_set _ (.inl rfl) J1.S1, slot_set _ (.inl rfl) J1.S2⟩
  rcases J.S0 with ⟨rfl, rfl⟩ | ⟨w, rfl, hw, wa, wb, hW, ht⟩
  · exact set (by unfold mx; rw [if_pos (by omega)]) (give81_0n J.A J.ha)
  · by_cases hlt : t0 < st
    · exact set (by unfold mx; rw [if_pos hlt]) (give81_0l J.A J.ha hW hw hlt)
    · have J1 := J.push (.cells [.int .i64 st] 3 1 .fixed)
      have e : mx t0 st = t0 := by unfold mx; rw [if_neg hlt]
      exact ⟨_, .ptr w 0, s1, s2, give81_0g J.A J.ha hW hw hlt, Keep.push H _ qa qb, by rw [e]; exact J1⟩
theorem JH.giveB0 {H : AHeap} {qa qb : Nat} {node term : Int} {s0 s1 s2 : AVal} {t0 t1 t2 u0 u1 u2 : Int} (J : JH H qa qb node term s0 s1 s2 t0 t1 t2 u0 u1 u2) {st : Int} (hk : ¬ 0 = node) (hs : inL st = true) :
    ∃ H1, denF Φ5 none2 c35 [.ptr qb 0, .int .i64 0, .int .i64 st] H = some (.int .i64 0, H1) ∧ Keep H H1 qa qb ∧ JH H1 qa qb node term s0 s1 s2 t0 t1 t2 (mx u0 st) u1 u2 := by
  have ha := J.ha
  have hq := J.hq
  refine ⟨_, give35_0 J.B J.hq hk hs, Keep.setb _ _ qa qb, by simp; omega, by simp; omega, J.aq, by rw [AHeap.get_set, if_neg J.aq]; exact J.A, by rw [AHeap.get_set, if_pos rfl], slot_set _ (.inr rfl) J.S0, slot_set _ (.inr rfl) J.S1, slot_set _ (.inr rfl) J.S2⟩
theorem JH.giveA1 {H : AHeap} {qa qb : Nat} {node term : Int} {s0 s1 s2 : AVal} {t0 t1 t2 u0 u1 u2 : Int} (J : JH H qa qb node term s0 s1 s2 t0 t1 t2 u0 u1 u2) {st : Int} (hs : inL st = true) :
    ∃ H1 s0' s1' s2', denF Φ5 none2 c81 [.ptr qa 0, .int .i64 1, .int .i64 st] H = some (.tup [], H1) ∧ Keep H H1 qa qb ∧ JH H1 qa qb node term s0' s1' s2' t0 (mx t1 st) t2 u0 u1 u2 := by
  have h0 : 0 ≤ st := by simp only [inL, Bool.and_eq_true, decide_eq_true_eq] at hs; exact hs.1
  have ha := J.ha
  have hq := J.hq
  have set : ∀ (e : mx t1 st = st) (hg : denF Φ5 none2 c81 [.ptr qa 0, .int .i64 1, .int .i64 st] H = some (.tup [], ((H.push (.cells [.int .i64 st] 3 1 .fixed)).set qa (.cells [.bool true, .int .i64 node, .int .i64 term, s0, .ptr H.n 0, s2] 52 6 .fixed)))), ∃ H1 s0' s1' s2', denF Φ5 none2 c81 [.ptr qa 0, .int .i64 1, .int .i64 st] H = some (.tup [], H1) ∧ Keep H H1 qa qb ∧ JH H1 qa qb node term s0' s1' s2' t0 (mx t1 st) t2 u0 u1 u2 := by
    intro e hg
    have J1 := J.push (.cells [.int .i64 st] 3 1 .fixed)
    have n1 : ¬ H.n = qa := by omega
    have n2 : ¬ H.n = qb := by omega
    have k1 : Keep H ((H.push (.cells [.int .i64 st] 3 1 .fixed)).set qa (.cells [.bool true, .int .i64 node, .int .i64 term, s0, .ptr H.n 0, s2] 52 6 .fixed)) qa qb := (Keep.push H _ qa qb).trans (Keep.seta _ _ qa qb)
    refine ⟨_, s0, .ptr H.n 0, s2, hg, k1, by simp; omega, by simp; omega, J.aq, by rw [AHeap.get_set, if_pos rfl], by rw [AHeap.get_set, if_neg (Ne.symm J.aq)]; exact J1.B, slot_set _ (.inl rfl) J1.S0, .inr ⟨H.n, rfl, by simp, n1, n2, by rw [e, AHeap.get_set, if_neg n1, AHeap.get_push, if_pos rfl], by omega⟩, slot_set _ (.inl rfl) J1.S2⟩
  rcases J.S1 with ⟨rfl, rfl⟩ | ⟨w, rfl, hw, wa, wb, hW, ht⟩
  · exact set (by unfold mx; rw [if_pos (by omega)]) (give81_1n J.A J.ha)
  · by_cases hlt : t1 < st
    · exact set (by unfold mx; rw [if_pos hlt]) (give81_1l J.A J.ha hW hw hlt)
    · have J1 := J.push (.cells [.int .i64 st] 3 1 .fixed)
      have e : mx t1 st = t1 := by unfold mx; rw [if_neg hlt]
      exact ⟨_, s0, .ptr w 0, s2, give81_1g J.A J.ha hW hw hlt, Keep.push H _ qa qb, by rw [e]; exact J1⟩
theorem JH.giveB1 {H : AHeap} {qa qb : Nat} {node term : Int} {s0 s1 s2 : AVal} {t0 t1 t2 u0 u1 u2 : Int} (J : JH H qa qb node term s0 s1 s2 t0 t1 t2 u0 u1 u2) {st : Int} (hk : ¬ 1 = node) (hs : inL st = true) :
    ∃ H1, denF Φ5 none2 c35 [.ptr qb 0, .int .i64 1, .int .i64 st] H = some (.int .i64 0, H1) ∧ Keep H H1 qa qb ∧ JH H1 qa qb node term s0 s1 s2 t0 t1 t2 u0 (mx u1 st) u2 := by
  have ha := J.ha
  have hq := J.hq
  refine ⟨_, give35_1 J.B J.hq hk hs, Keep.setb _ _ qa qb, by simp; omega, by simp; omega, J.aq, by rw [AHeap.get_set, if_neg J.aq]; exact J.A, by rw [AHeap.get_set, if_pos rfl], slot_set _ (.inr rfl) J.S0, slot_set _ (.inr rfl) J.S1, slot_set _ (.inr rfl) J.S2⟩
theorem JH.giveA2 {H : AHeap} {qa qb : Nat} {node term : Int} {s0 s1 s2 : AVal} {t0 t1 t2 u0 u1 u2 : Int} (J : JH H qa qb node term s0 s1 s2 t0 t1 t2 u0 u1 u2) {st : Int} (hs : inL st = true) :
    ∃ H1 s0' s1' s2', denF Φ5 none2 c81 [.ptr qa 0, .int .i64 2, .int .i64 st] H = some (.tup [], H1) ∧ Keep H H1 qa qb ∧ JH H1 qa qb node term s0' s1' s2' t0 t1 (mx t2 st) u0 u1 u2 := by
  have h0 : 0 ≤ st := by simp only [inL, Bool.and_eq_true, decide_eq_true_eq] at hs; exact hs.1
  have ha := J.ha
  have hq := J.hq
  have set : ∀ (e : mx t2 st = st) (hg : denF Φ5 none2 c81 [.ptr qa 0, .int .i64 2, .int .i64 st] H = some (.tup [], ((H.push (.cells [.int .i64 st] 3 1 .fixed)).set qa (.cells [.bool true, .int .i64 node, .int .i64 term, s0, s1, .ptr H.n 0] 52 6 .fixed)))), ∃ H1 s0' s1' s2', denF Φ5 none2 c81 [.ptr qa 0, .int .i64 2, .int .i64 st] H = some (.tup [], H1) ∧ Keep H H1 qa qb ∧ JH H1 qa qb node term s0' s1' s2' t0 t1 (mx t2 st) u0 u1 u2 := by
    intro e hg
    have J1 := J.push (.cells [.int .i64 st] 3 1 .fixed)
    have n1 : ¬ H.n = qa := by omega
    have n2 : ¬ H.n = qb := by omega
    have k1 : Keep H ((H.push (.cells [.int .i64 st] 3 1 .fixed)).set qa (.cells [.bool true, .int .i64 node, .int .i64 term, s0, s1, .ptr H.n 0] 52 6 .fixed)) qa qb := (Keep.push H _ qa qb).trans (Keep.seta _ _ qa qb)
    refine ⟨_, s0, s1, .ptr H.n 0, hg, k1, by simp; omega, by simp; omega, J.aq, by rw [AHeap.get_set, if_pos rfl], by rw [AHeap.get_set, if_neg (Ne.symm J.aq)]; exact J1.B, slot_set _ (.inl rfl) J1.S0, slot_set _ (.inl rfl) J1.S1, .inr ⟨H.n, rfl, by simp, n1, n2, by rw [e, AHeap.get_set, if_neg n1, AHeap.get_push, if_pos rfl], by omega⟩⟩
  rcases J.S2 with ⟨rfl, rfl⟩ | ⟨w, rfl, hw, wa, wb, hW, ht⟩
  · exact set (by unfold mx; rw [if_pos (by omega)]) (give81_2n J.A J.ha)
  · by_cases hlt : t2 < st
    · exact set (by unfold mx; rw [if_pos hlt]) (give81_2l J.A J.ha hW hw hlt)
    · have J1 := J.push (.cells [.int .i64 st] 3 1 .fixed)
      have e : mx t2 st = t2 := by unfold mx; rw [if_neg hlt]
      exact ⟨_, s0, s1, .ptr w 0, give81_2g J.A J.ha hW hw hlt, Keep.push H _ qa qb, by rw [e]; exact J1⟩
theorem JH.giveB2 {H : AHeap} {qa qb : Nat} {node term : Int} {s0 s1 s2 : AVal} {t0 t1 t2 u0 u1 u2 : Int} (J : JH H qa qb node term s0 s1 s2 t0 t1 t2 u0 u1 u2) {st : Int} (hk : ¬ 2 = node) (hs : inL st = true) :
    ∃ H1, denF Φ5 none2 c35 [.ptr qb 0, .int .i64 2, .int .i64 st] H = some (.int .i64 0, H1) ∧ Keep H H1 qa qb ∧ JH H1 qa qb node term s0 s1 s2 t0 t1 t2 u0 u1 (mx u2 st) := by
  have ha := J.ha
  have hq := J.hq
  refine ⟨_, give35_2 J.B J.hq hk hs, Keep.setb _ _ qa qb, by simp; omega, by simp; omega, J.aq, by rw [AHeap.get_set, if_neg J.aq]; exact J.A, by rw [AHeap.get_set, if_pos rfl], slot_set _ (.inr rfl) J.S0, slot_set _ (.inr rfl) J.S1, slot_set _ (.inr rfl) J.S2⟩
/-- A lease is taken up, by both. -/
theorem JH.give {H : AHeap} {qa qb : Nat} {node term : Int} {s0 s1 s2 : AVal} {t0 t1 t2 : Int} (J : JH H qa qb node term s0 s1 s2 t0 t1 t2 t0 t1 t2) {who st : Int} (hf : fromL node who = true) (hs : inL st = true) (g : AHeap → AHeap) (hg : ∀ G s0 s1 s2 t0 t1 t2 u0 u1 u2, JH G qa qb node term s0 s1 s2 t0 t1 t2 u0 u1 u2 → JH (g G) qa qb node term s0 s1 s2 t0 t1 t2 u0 u1 u2) :
    ∃ H1 H2 s0' s1' s2' t0' t1' t2', denF Φ5 none2 c81 [.ptr qa 0, .int .i64 who, .int .i64 st] H = some (.tup [], H1) ∧ Keep H H1 qa qb ∧ JH H1 qa qb node term s0' s1' s2' t0' t1' t2' t0 t1 t2 ∧ denF Φ5 none2 c35 [.ptr qb 0, .int .i64 who, .int .i64 st] (g H1) = some (.int .i64 0, H2) ∧ Keep (g H1) H2 qa qb ∧ JH H2 qa qb node term s0' s1' s2' t0' t1' t2' t0' t1' t2' := by
  simp only [fromL, Bool.and_eq_true, decide_eq_true_eq, Bool.not_eq_true', decide_eq_false_iff_not] at hf
  obtain ⟨⟨h1, h2⟩, h3⟩ := hf
  rcases (show who = 0 ∨ who = 1 ∨ who = 2 by omega) with rfl | rfl | rfl
  · obtain ⟨H1, a, b, c, e1, k1, J1⟩ := J.giveA0 hs
    obtain ⟨H2, e2, k2, J2⟩ := (hg _ _ _ _ _ _ _ _ _ _ J1).giveB0 h3 hs
    exact ⟨H1, H2, a, b, c, _, _, _, e1, k1, J1, e2, k2, J2⟩
  · obtain ⟨H1, a, b, c, e1, k1, J1⟩ := J.giveA1 hs
    obtain ⟨H2, e2, k2, J2⟩ := (hg _ _ _ _ _ _ _ _ _ _ J1).giveB1 h3 hs
    exact ⟨H1, H2, a, b, c, _, _, _, e1, k1, J1, e2, k2, J2⟩
  · obtain ⟨H1, a, b, c, e1, k1, J1⟩ := J.giveA2 hs
    obtain ⟨H2, e2, k2, J2⟩ := (hg _ _ _ _ _ _ _ _ _ _ J1).giveB2 h3 hs
    exact ⟨H1, H2, a, b, c, _, _, _, e1, k1, J1, e2, k2, J2⟩
end Go.Eng.SeatB

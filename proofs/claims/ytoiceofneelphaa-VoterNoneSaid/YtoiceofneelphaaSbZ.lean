/- Layer 18: VoterNone. -/
import Derived.Test.YtoiceofneelphaaSbZA
import Derived.Test.YtoiceofneelphaaEngTop2
set_option linter.unusedSimpArgs false
set_option linter.unusedVariables false
set_option maxHeartbeats 40000000
set_option maxRecDepth 100000
namespace Go.Eng.SeatB
open Go.Proofs
theorem z53 (l : List AVal) (H : AHeap) : Z41 53 l H = denF none2 none2 c53 l H := (rfl)
theorem z50 (l : List AVal) (H : AHeap) : Z41 50 l H = pspec rTrue50 l H := (rfl)
def vcs (kd nw tm k fr t sq st bl : Int) (ok : Bool) (rt rn rs bits : Int) (a : Option Addr) (n c : Nat) (r1 r2 r3 : Int) : List AVal := [.int .i64 kd, .int .i64 nw, .int .i64 tm, .int .i64 k, .int .i64 fr, .int .i64 t, .int .i64 sq, .int .i64 st, .int .i64 bl, .bool ok, .int .i64 rt, .int .i64 rn, .int .i64 rs, .int .u64 bits, .raw (.slice a n c), .int .i64 r1, .int .i64 r2, .int .i64 r3]
def r12 : List AVal → Option AVal
  | [.agg [.int .i64 _, .int .i64 _, .int .i64 _, .int .i64 _, .int .i64 _, .int .i64 _, .int .i64 _, .int .i64 _, .int .i64 _, .bool _, .int .i64 _, .int .i64 _, .int .i64 _, .int .u64 _, .raw (.slice _ _ _), .int .i64 _, .int .i64 _, .int .i64 _]] => some (.bool true)
  | _ => none
theorem long53 {H : AHeap} {q : Nat} {kd nw tm k fr t sq st bl : Int} {ok : Bool} {rt rn rs bits : Int} {a : Option Addr} {n c : Nat} {r1 r2 r3 : Int} (hq : H.get q = .cells (vcs kd nw tm k fr t sq st bl ok rt rn rs bits a n c r1 r2 r3) 89 18 .fixed) :
    denF none2 none2 c53 [.sl q 0 1 (some 1)] H = some (.bool (decide ((100 : Int) < n)), H) := by
  unfold vcs at hq
  by_cases hn : (100 : Int) < n
  · have h : iter (aden none2 b53_0) 1 ⟨[(0, .sl q 0 1 (some 1)), (3, .int .i64 0)], H, []⟩ = some (.ret, ⟨[(2, .bool true)], H, []⟩) := by
      rw [show (1 : Nat) = 0 + 1 from rfl, iter_succ]
      unfold b53_0
      simp (maxSteps := 10000000) +contextual [go_sem, hq, hn]
    have h := iter_mono h (show 1 ≤ fuel by unfold fuel; omega)
    unfold c53
    simp (maxSteps := 10000000) +contextual [go_sem, h, hn]
  · have h : iter (aden none2 b53_0) 2 ⟨[(0, .sl q 0 1 (some 1)), (3, .int .i64 0)], H, []⟩ = some (.exit 0, ⟨[(0, .sl q 0 1 (some 1)), (3, .int .i64 1), (7, .bool false)], H, []⟩) := by
      have e1 : aden none2 b53_0 ⟨[(0, .sl q 0 1 (some 1)), (3, .int .i64 0)], H, []⟩ = some (.normal, ⟨[(0, .sl q 0 1 (some 1)), (3, .int .i64 1)], H, []⟩) := by
        unfold b53_0
        simp (maxSteps := 10000000) +contextual [go_sem, hq, hn, IntKind.wrap_i64]
      have e2 : aden none2 b53_0 ⟨[(0, .sl q 0 1 (some 1)), (3, .int .i64 1)], H, []⟩ = some (.exit 0, ⟨[(0, .sl q 0 1 (some 1)), (3, .int .i64 1), (7, .bool false)], H, []⟩) := by
        unfold b53_0
        simp (maxSteps := 10000000) +contextual [go_sem]
      rw [show (2 : Nat) = 0 + 1 + 1 from rfl, iter_succ, e1, iterK_n, iter_succ, e2, iterK_e]
    have h := iter_mono h (show 2 ≤ fuel by unfold fuel; omega)
    unfold c53
    simp (maxSteps := 10000000) +contextual [go_sem, h, hn]
theorem s12 : Sound Try.prog 12 (pspec r12) := by
  refine (fun_sound Zo41 none_soundD mixed Try.func12 cal12 comp12).pspec (φ := denF Z41 none2 c12) fun args v h => ?_
  unfold r12 at h
  split at h
  · simp only [Option.some.injEq] at h; subst h
    rename_i kd nw tm k fr t sq st bl ok rt rn rs bits a n c r1 r2 r3
    refine ⟨by simp [AVal.scals, AVal.scal], by simp [AVal.scals, AVal.scal], ?_⟩
    have hl := long53 (H := (heap0.push (.cells (vcs kd nw tm k fr t sq st bl ok rt rn rs bits a n c r1 r2 r3) 89 18 .fixed)).push (.cells (vcs kd nw tm k fr t sq st bl ok rt rn rs bits a n c r1 r2 r3) 89 18 .fixed)) (q := 1) (kd := kd) (nw := nw) (tm := tm) (k := k) (fr := fr) (t := t) (sq := sq) (st := st) (bl := bl) (ok := ok) (rt := rt) (rn := rn) (rs := rs) (bits := bits) (a := a) (n := n) (c := c) (r1 := r1) (r2 := r2) (r3 := r3) (by simp [AHeap.get_push, heap0_n])
    unfold vcs at hl
    by_cases hn : (100 : Int) < n
    · unfold c12
      simp (maxSteps := 10000000) +contextual [go_sem, z53, z50, rTrue50, hl, hn]
    · obtain ⟨G, hG⟩ : ∃ G, iter (aden Z41 b12_0) fuel ⟨[(1, .ptr 0 0), (4, .sl 3 0 2 (some 2)), (5, .int .i64 0)], (((heap0.push (.cells (vcs kd nw tm k fr t sq st bl ok rt rn rs bits a n c r1 r2 r3) 89 18 .fixed)).push (.cells (vcs kd nw tm k fr t sq st bl ok rt rn rs bits a n c r1 r2 r3) 89 18 .fixed)).push (.cells [.bool false, .int .i64 0, .int .i64 0, .int .i64 0, .int .i64 0, .int .i64 0, .int .i64 0, .int .i64 0, .int .i64 0, .int .i64 0] 99 10 .fixed)).push (.cells [.nilp, .ptr 2 0] 71 1 .fixed), []⟩ = some (.exit 0, ⟨[(1, .ptr 0 0), (4, .sl 3 0 2 (some 2)), (5, .int .i64 2), (29, .bool false)], G, []⟩) := exit_ok (by kernel_rfl)
      unfold vcs at hG
      unfold c12
      simp (maxSteps := 10000000) +contextual [go_sem, z53, z50, rTrue50, hl, hn, hG]
  · simp at h
end Go.Eng.SeatB

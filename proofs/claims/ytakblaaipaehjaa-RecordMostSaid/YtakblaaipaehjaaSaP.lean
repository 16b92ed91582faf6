/- Layer 17: RecordMost. -/
import Derived.Test.YtakblaaipaehjaaSaO
set_option linter.unusedSimpArgs false
set_option linter.unusedVariables false
set_option maxHeartbeats 40000000
namespace Go.Eng.SeatA
open Go.Proofs
def sameR (a b c t n s : Int) : Bool := decide (a = t) && (decide (b = n) && decide (c = s))
def keptR (a b c t n s : Int) : Bool := sameR a b c t n s || newerL a b t n
def rec3 (a b c : Int) : AVal := .agg [.int .i64 a, .int .i64 b, .int .i64 c]
theorem most0 {H : AHeap} {t n s a0 b0 c0 a1 b1 c1 a2 b2 c2 node voter : Int} (h0 : H.get 0 = .cells [.int .i64 t, .int .i64 n, .int .i64 s] 48 3 .fixed) (h1 : H.get 1 = .cells [.int .i64 a0, .int .i64 b0, .int .i64 c0, .int .i64 a1, .int .i64 b1, .int .i64 c1, .int .i64 a2, .int .i64 b2, .int .i64 c2] 60 9 .fixed) (hn : 1 < H.n) {h : Int} (hh : 0 ≤ h ∧ h ≤ 3) : aden Ψ6 b13_0 ⟨[(2, .int .i64 node), (3, .int .i64 voter), (4, .ptr 0 0), (5, .ptr 1 0), (9, .bool true), (10, .int .i64 h), (11, .int .i64 0)], H, []⟩ = some (.normal, ⟨[(2, .int .i64 node), (3, .int .i64 voter), (4, .ptr 0 0), (5, .ptr 1 0), (9, .bool true), (10, .int .i64 (if keptR a0 b0 c0 t n s = true then h + 1 else h)), (11, .int .i64 1)], H, []⟩) := by
  have hw : IntKind.i64.wrap (h + 1) = h + 1 := by rw [IntKind.wrap_i64]; omega
  have w1 : IntKind.i64.wrap 1 = 1 := rfl
  have w2 : IntKind.i64.wrap 2 = 2 := rfl
  have w3 : IntKind.i64.wrap 3 = 3 := rfl
  have hn0 : 0 < H.n := by omega
  unfold b13_0
  by_cases e1 : a0 = t
  · by_cases e2 : b0 = n
    · by_cases e3 : c0 = s
      · subst e1; subst e2; subst e3
        simp (maxSteps := 10000000) +contextual [go_sem, h0, h1, hn, hn0, hw, w1, w2, w3, q6_28, r28, keptR, sameR]
      · subst e1; subst e2
        cases e4 : newerL a0 b0 a0 b0 <;> simp (maxSteps := 10000000) +contextual [go_sem, h0, h1, hn, hn0, hw, w1, w2, w3, q6_28, r28, keptR, sameR, e3, e4]
    · subst e1
      cases e4 : newerL a0 b0 a0 n <;> simp (maxSteps := 10000000) +contextual [go_sem, h0, h1, hn, hn0, hw, w1, w2, w3, q6_28, r28, keptR, sameR, e2, e4]
  · cases e4 : newerL a0 b0 t n <;> simp (maxSteps := 10000000) +contextual [go_sem, h0, h1, hn, hn0, hw, w1, w2, w3, q6_28, r28, keptR, sameR, e1, e4]
theorem most1 {H : AHeap} {t n s a0 b0 c0 a1 b1 c1 a2 b2 c2 node voter : Int} (h0 : H.get 0 = .cells [.int .i64 t, .int .i64 n, .int .i64 s] 48 3 .fixed) (h1 : H.get 1 = .cells [.int .i64 a0, .int .i64 b0, .int .i64 c0, .int .i64 a1, .int .i64 b1, .int .i64 c1, .int .i64 a2, .int .i64 b2, .int .i64 c2] 60 9 .fixed) (hn : 1 < H.n) {h : Int} (hh : 0 ≤ h ∧ h ≤ 3) : aden Ψ6 b13_0 ⟨[(2, .int .i64 node), (3, .int .i64 voter), (4, .ptr 0 0), (5, .ptr 1 0), (9, .bool true), (10, .int .i64 h), (11, .int .i64 1)], H, []⟩ = some (.normal, ⟨[(2, .int .i64 node), (3, .int .i64 voter), (4, .ptr 0 0), (5, .ptr 1 0), (9, .bool true), (10, .int .i64 (if keptR a1 b1 c1 t n s = true then h + 1 else h)), (11, .int .i64 2)], H, []⟩) := by
  have hw : IntKind.i64.wrap (h + 1) = h + 1 := by rw [IntKind.wrap_i64]; omega
  have w1 : IntKind.i64.wrap 1 = 1 := rfl
  have w2 : IntKind.i64.wrap 2 = 2 := rfl
  have w3 : IntKind.i64.wrap 3 = 3 := rfl
  have hn0 : 0 < H.n := by omega
  unfold b13_0
  by_cases e1 : a1 = t
  · by_cases e2 : b1 = n
    · by_cases e3 : c1 = s
      · subst e1; subst e2; subst e3
        simp (maxSteps := 10000000) +contextual [go_sem, h0, h1, hn, hn0, hw, w1, w2, w3, q6_28, r28, keptR, sameR]
      · subst e1; subst e2
        cases e4 : newerL a1 b1 a1 b1 <;> simp (maxSteps := 10000000) +contextual [go_sem, h0, h1, hn, hn0, hw, w1, w2, w3, q6_28, r28, keptR, sameR, e3, e4]
    · subst e1
      cases e4 : newerL a1 b1 a1 n <;> simp (maxSteps := 10000000) +contextual [go_sem, h0, h1, hn, hn0, hw, w1, w2, w3, q6_28, r28, keptR, sameR, e2, e4]
  · cases e4 : newerL a1 b1 t n <;> simp (maxSteps := 10000000) +contextual [go_sem, h0, h1, hn, hn0, hw, w1, w2, w3, q6_28, r28, keptR, sameR, e1, e4]
theorem most2 {H : AHeap} {t n s a0 b0 c0 a1 b1 c1 a2 b2 c2 node voter : Int} (h0 : H.get 0 = .cells [.int .i64 t, .int .i64 n, .int .i64 s] 48 3 .fixed) (h1 : H.get 1 = .cells [.int .i64 a0, .int .i64 b0, .int .i64 c0, .int .i64 a1, .int .i64 b1, .int .i64 c1, .int .i64 a2, .int .i64 b2, .int .i64 c2] 60 9 .fixed) (hn : 1 < H.n) {h : Int} (hh : 0 ≤ h ∧ h ≤ 3) : aden Ψ6 b13_0 ⟨[(2, .int .i64 node), (3, .int .i64 voter), (4, .ptr 0 0), (5, .ptr 1 0), (9, .bool true), (10, .int .i64 h), (11, .int .i64 2)], H, []⟩ = some (.normal, ⟨[(2, .int .i64 node), (3, .int .i64 voter), (4, .ptr 0 0), (5, .ptr 1 0), (9, .bool true), (10, .int .i64 (if keptR a2 b2 c2 t n s = true then h + 1 else h)), (11, .int .i64 3)], H, []⟩) := by
  have hw : IntKind.i64.wrap (h + 1) = h + 1 := by rw [IntKind.wrap_i64]; omega
  have w1 : IntKind.i64.wrap 1 = 1 := rfl
  have w2 : IntKind.i64.wrap 2 = 2 := rfl
  have w3 : IntKind.i64.wrap 3 = 3 := rfl
  have hn0 : 0 < H.n := by omega
  unfold b13_0
  by_cases e1 : a2 = t
  · by_cases e2 : b2 = n
    · by_cases e3 : c2 = s
      · subst e1; subst e2; subst e3
        simp (maxSteps := 10000000) +contextual [go_sem, h0, h1, hn, hn0, hw, w1, w2, w3, q6_28, r28, keptR, sameR]
      · subst e1; subst e2
        cases e4 : newerL a2 b2 a2 b2 <;> simp (maxSteps := 10000000) +contextual [go_sem, h0, h1, hn, hn0, hw, w1, w2, w3, q6_28, r28, keptR, sameR, e3, e4]
    · subst e1
      cases e4 : newerL a2 b2 a2 n <;> simp (maxSteps := 10000000) +contextual [go_sem, h0, h1, hn, hn0, hw, w1, w2, w3, q6_28, r28, keptR, sameR, e2, e4]
  · cases e4 : newerL a2 b2 t n <;> simp (maxSteps := 10000000) +contextual [go_sem, h0, h1, hn, hn0, hw, w1, w2, w3, q6_28, r28, keptR, sameR, e1, e4]
theorem most3 {H : AHeap} {node voter h : Int} : aden Ψ6 b13_0 ⟨[(2, .int .i64 node), (3, .int .i64 voter), (4, .ptr 0 0), (5, .ptr 1 0), (9, .bool true), (10, .int .i64 h), (11, .int .i64 3)], H, []⟩ = some (.exit 0, ⟨[(2, .int .i64 node), (3, .int .i64 voter), (4, .ptr 0 0), (5, .ptr 1 0), (9, .bool true), (10, .int .i64 h), (11, .int .i64 3), (44, .bool false)], H, []⟩) := by
  unfold b13_0
  simp (maxSteps := 10000000) +contextual [go_sem]
theorem loop13 {H : AHeap} {t n s a0 b0 c0 a1 b1 c1 a2 b2 c2 node voter : Int} (h0 : H.get 0 = .cells [.int .i64 t, .int .i64 n, .int .i64 s] 48 3 .fixed) (h1 : H.get 1 = .cells [.int .i64 a0, .int .i64 b0, .int .i64 c0, .int .i64 a1, .int .i64 b1, .int .i64 c1, .int .i64 a2, .int .i64 b2, .int .i64 c2] 60 9 .fixed) (hn : 1 < H.n) : ∃ cnt : Int, iter (aden Ψ6 b13_0) fuel ⟨[(2, .int .i64 node), (3, .int .i64 voter), (4, .ptr 0 0), (5, .ptr 1 0), (9, .bool true), (10, .int .i64 0), (11, .int .i64 0)], H, []⟩ = some (.exit 0, ⟨[(2, .int .i64 node), (3, .int .i64 voter), (4, .ptr 0 0), (5, .ptr 1 0), (9, .bool true), (10, .int .i64 cnt), (11, .int .i64 3), (44, .bool false)], H, []⟩) ∧
    (2 ≤ cnt → (keptR a0 b0 c0 t n s = true ∨ keptR a1 b1 c1 t n s = true) ∧ (keptR a0 b0 c0 t n s = true ∨ keptR a2 b2 c2 t n s = true) ∧ (keptR a1 b1 c1 t n s = true ∨ keptR a2 b2 c2 t n s = true)) := by
  refine ⟨(if keptR a2 b2 c2 t n s = true then (if keptR a1 b1 c1 t n s = true then (if keptR a0 b0 c0 t n s = true then 0 + 1 else 0) + 1 else (if keptR a0 b0 c0 t n s = true then 0 + 1 else 0)) + 1 else (if keptR a1 b1 c1 t n s = true then (if keptR a0 b0 c0 t n s = true then 0 + 1 else 0) + 1 else (if keptR a0 b0 c0 t n s = true then 0 + 1 else 0))), iter_mono (n := 4) (m := fuel) ?_ (by unfold fuel; omega), ?_⟩
  · rw [show (4 : Nat) = 3 + 1 from rfl, iter_succ, most0 h0 h1 hn (by omega), iterK_n, show (3 : Nat) = 2 + 1 from rfl, iter_succ, most1 h0 h1 hn (by split <;> omega), iterK_n, show (2 : Nat) = 1 + 1 from rfl, iter_succ, most2 h0 h1 hn (by repeat' split; all_goals omega), iterK_n, show (1 : Nat) = 0 + 1 from rfl, iter_succ]
    erw [most3]
    rfl
  · intro h
    cases e0 : keptR a0 b0 c0 t n s <;> cases e1 : keptR a1 b1 c1 t n s <;> cases e2 : keptR a2 b2 c2 t n s <;> simp [e0, e1, e2] at h ⊢
theorem most_law {t n s a b c d e f node : Int} (h : hasL s node = false) (k : keptR a b c t n s = true ∨ keptR d e f t n s = true) (n1 : newerL a b t n = false) (n2 : newerL d e t n = false) : mayR a b c node d e f = false := by
  simp only [keptR, n1, n2, Bool.or_false, sameR, Bool.and_eq_true, decide_eq_true_eq] at k
  rcases k with ⟨rfl, rfl, rfl⟩ | ⟨rfl, rfl, rfl⟩
  · simp [mayR, h]
  · simp [mayR, h, n1]
def r13 : List AVal → Option AVal
  | [.agg [.int .i64 _, .int .i64 _, .int .i64 _], .agg [.int .i64 _, .int .i64 _, .int .i64 _, .int .i64 _, .int .i64 _, .int .i64 _, .int .i64 _, .int .i64 _, .int .i64 _], .int .i64 _, .int .i64 _] => some (.bool true)
  | _ => none
theorem s13 : Sound Try.prog 13 (pspec r13) := by
  refine (fun_sound oq6 none_soundD mixed Try.func13 cal13 comp13).pspec (φ := denF Ψ6 none2 c13) fun args v h => ?_
  unfold r13 at h
  split at h
  · simp only [Option.some.injEq] at h; subst h
    rename_i t n s a0 b0 c0 a1 b1 c1 a2 b2 c2 node voter
    refine ⟨by simp [AVal.scals, AVal.scal], by simp [AVal.scals, AVal.scal], ?_⟩
    unfold c13
    by_cases hc : checkL t n s = 0
    · by_cases n1 : node < 0
      · simp (maxSteps := 10000000) +contextual [go_sem, q6_26, q6_28, q6_30, q6_32, q6_34, r23, r26, r28, r30, r32, hc, n1]
      · by_cases n2 : 1 < node
        · simp (maxSteps := 10000000) +contextual [go_sem, q6_26, q6_28, q6_30, q6_32, q6_34, r23, r26, r28, r30, r32, hc, n1, n2]
        · by_cases v1 : voter < 0
          · simp (maxSteps := 10000000) +contextual [go_sem, q6_26, q6_28, q6_30, q6_32, q6_34, r23, r26, r28, r30, r32, hc, n1, n2, v1]
          · by_cases v2 : 2 < voter
            · simp (maxSteps := 10000000) +contextual [go_sem, q6_26, q6_28, q6_30, q6_32, q6_34, r23, r26, r28, r30, r32, hc, n1, n2, v1, v2]
            · by_cases vn : voter = node
              · subst vn
                simp (maxSteps := 10000000) +contextual [go_sem, q6_26, q6_28, q6_30, q6_32, q6_34, r23, r26, r28, r30, r32, hc, n1, n2, v1, v2]
              · cases hh : hasL s node with
                | true => simp (maxSteps := 10000000) +contextual [go_sem, q6_26, q6_28, q6_30, q6_32, q6_34, r23, r26, r28, r30, r32, hc, n1, n2, v1, v2, vn, hh]
                | false =>
                  obtain ⟨cnt, hl, hk⟩ := loop13 (H := (heap0.push (.cells [.int .i64 t, .int .i64 n, .int .i64 s] 48 3 .fixed)).push (.cells [.int .i64 a0, .int .i64 b0, .int .i64 c0, .int .i64 a1, .int .i64 b1, .int .i64 c1, .int .i64 a2, .int .i64 b2, .int .i64 c2] 60 9 .fixed)) (t := t) (n := n) (s := s) (a0 := a0) (b0 := b0) (c0 := c0) (a1 := a1) (b1 := b1) (c1 := c1) (a2 := a2) (b2 := b2) (c2 := c2) (node := node) (voter := voter) (by simp [AHeap.get_push, heap0]) (by simp [AHeap.get_push, heap0]) (by simp [heap0])
                  by_cases hcnt : cnt < 2
                  · simp (maxSteps := 10000000) +contextual [go_sem, q6_26, q6_28, q6_30, q6_32, q6_34, r23, r26, r28, r30, r32, hc, n1, n2, v1, v2, vn, hh, hl, hcnt]
                  · obtain ⟨k01, k02, k12⟩ := hk (by omega)
                    have hcases : (node = 0 ∧ voter = 1) ∨ (node = 0 ∧ voter = 2) ∨ (node = 1 ∧ voter = 0) ∨ (node = 1 ∧ voter = 2) := by omega
                    rcases hcases with ⟨rfl, rfl⟩ | ⟨rfl, rfl⟩ | ⟨rfl, rfl⟩ | ⟨rfl, rfl⟩
                    · cases e1 : newerL a0 b0 t n with
                      | true => simp (maxSteps := 10000000) +contextual [go_sem, q6_26, q6_28, q6_30, q6_32, q6_34, r23, r26, r28, r30, r32, hc, hh, hl, hcnt, e1]
                      | false =>
                        cases e2 : newerL a1 b1 t n with
                        | true => simp (maxSteps := 10000000) +contextual [go_sem, q6_26, q6_28, q6_30, q6_32, q6_34, r23, r26, r28, r30, r32, hc, hh, hl, hcnt, e1, e2]
                        | false =>
                          have hm := most_law hh k01 e1 e2
                          simp (maxSteps := 10000000) +contextual [go_sem, q6_26, q6_28, q6_30, q6_32, q6_34, r23, r26, r28, r30, r32, hc, hh, hl, hcnt, e1, e2, hm]
                    · cases e1 : newerL a0 b0 t n with
                      | true => simp (maxSteps := 10000000) +contextual [go_sem, q6_26, q6_28, q6_30, q6_32, q6_34, r23, r26, r28, r30, r32, hc, hh, hl, hcnt, e1]
                      | false =>
                        cases e2 : newerL a2 b2 t n with
                        | true => simp (maxSteps := 10000000) +contextual [go_sem, q6_26, q6_28, q6_30, q6_32, q6_34, r23, r26, r28, r30, r32, hc, hh, hl, hcnt, e1, e2]
                        | false =>
                          have hm := most_law hh k02 e1 e2
                          simp (maxSteps := 10000000) +contextual [go_sem, q6_26, q6_28, q6_30, q6_32, q6_34, r23, r26, r28, r30, r32, hc, hh, hl, hcnt, e1, e2, hm]
                    · cases e1 : newerL a1 b1 t n with
                      | true => simp (maxSteps := 10000000) +contextual [go_sem, q6_26, q6_28, q6_30, q6_32, q6_34, r23, r26, r28, r30, r32, hc, hh, hl, hcnt, e1]
                      | false =>
                        cases e2 : newerL a0 b0 t n with
                        | true => simp (maxSteps := 10000000) +contextual [go_sem, q6_26, q6_28, q6_30, q6_32, q6_34, r23, r26, r28, r30, r32, hc, hh, hl, hcnt, e1, e2]
                        | false =>
                          have hm := most_law hh k01.symm e1 e2
                          simp (maxSteps := 10000000) +contextual [go_sem, q6_26, q6_28, q6_30, q6_32, q6_34, r23, r26, r28, r30, r32, hc, hh, hl, hcnt, e1, e2, hm]
                    · cases e1 : newerL a1 b1 t n with
                      | true => simp (maxSteps := 10000000) +contextual [go_sem, q6_26, q6_28, q6_30, q6_32, q6_34, r23, r26, r28, r30, r32, hc, hh, hl, hcnt, e1]
                      | false =>
                        cases e2 : newerL a2 b2 t n with
                        | true => simp (maxSteps := 10000000) +contextual [go_sem, q6_26, q6_28, q6_30, q6_32, q6_34, r23, r26, r28, r30, r32, hc, hh, hl, hcnt, e1, e2]
                        | false =>
                          have hm := most_law hh k12 e1 e2
                          simp (maxSteps := 10000000) +contextual [go_sem, q6_26, q6_28, q6_30, q6_32, q6_34, r23, r26, r28, r30, r32, hc, hh, hl, hcnt, e1, e2, hm]
    · have hc2 := (check_cases t n s).resolve_left hc
      simp (maxSteps := 10000000) +contextual [go_sem, q6_26, q6_28, q6_30, q6_32, q6_34, r23, r26, r28, r30, r32, hc2]
  · simp at h
end Go.Eng.SeatA

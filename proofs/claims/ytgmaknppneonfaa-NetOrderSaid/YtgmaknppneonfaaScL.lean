/- Layer 14: NetOrder, put together. -/
import Derived.Test.YtgmaknppneonfaaScJ
set_option linter.unusedSimpArgs false
set_option linter.unusedVariables false
set_option maxHeartbeats 40000000
namespace Go.Eng.SeatC
open Go.Proofs
theorem lastD3 {H : AHeap} {lk q : Nat} {want : AVal} {N : Nat} (h : lenK (some want) = some (.int .i64 N)) :
    aden Ω5 b3_0 ⟨tmD lk q want N, H, []⟩ = some (.exit 4, ⟨[(5, .bool true), (6, .ptr q 0), (7, .sl lk 0 6 (some 6)), (9, want), (12, .int .i64 N), (112, .bool false)], H, []⟩) := by
  unfold b3_0 tmD
  simp (maxSteps := 10000000) +contextual [go_sem, h]
theorem loopD3 {lk q : Nat} {c0 c1 c2 c3 c4 c5 : Bool} {want : AVal} {ws : List Nat} {lost : Int} : ∀ (ps : List Pk) (j : Nat) {H : AHeap} {way : AVal}, j + ps.length = ws.length → JD H lk q c0 c1 c2 c3 c4 c5 way want ws ps lost j →
    ∃ H' way', JD H' lk q c0 c1 c2 c3 c4 c5 way' want ws [] lost ws.length ∧ iter (aden Ω5 b3_0) (ps.length + 1) ⟨tmD lk q want j, H, []⟩ = some (.exit 4, ⟨[(5, .bool true), (6, .ptr q 0), (7, .sl lk 0 6 (some 6)), (9, want), (12, .int .i64 ws.length), (112, .bool false)], H', []⟩)
  | [], j, H, way, hj, J => by
    have hj' : j = ws.length := by simpa using hj
    subst hj'
    exact ⟨H, way, J, by rw [List.length_nil, iter_succ, lastD3 J.t.len]; rfl⟩
  | p :: ps, j, H, way, hj, J => by
    obtain ⟨H1, w1, J1, hs⟩ := stepD0 J
    obtain ⟨H2, w2, J2, h2⟩ := loopD3 ps (j + 1) (by simp at hj; omega) J1
    exact ⟨H2, w2, J2, by rw [List.length_cons, iter_succ, hs, iterK_n]; exact h2⟩
theorem cut0 {H : AHeap} {q : Nat} {c0 c1 c2 c3 c4 c5 b : Bool} {way : AVal} {lost : Int} (lq : q < H.n) (hq : H.get q = .cells (nbc c0 c1 c2 c3 c4 c5 way lost) 56 12 .fixed) :
    denF Ω0 none2 c11 [.ptr q 0, .int .i64 0, .int .i64 1, .bool b] H = some (.int .i64 0, H.set q (.cells (nbc b c1 c2 c3 c4 c5 way lost) 56 12 .fixed)) := by
  have n26 := nonec hq
  have lk : ∀ G, denF none2 none2 c27 [.int .i64 0, .int .i64 1] G = some (.bool true, G) := fun G => linkc (by omega) (by omega) (by omega) (by omega) (by omega)
  unfold nbc at hq ⊢
  unfold c11
  simp (maxSteps := 10000000) +contextual [go_sem, hq, lq, o0_26, o0_27, n26, lk]
theorem stepC0 {H : AHeap} {bl o n : Nat} {f : Nat → Int} {cb lk q : Nat} {c0 c1 c2 c3 c4 c5 : Bool} {l : AVal} {lost : Int} (E : EV H bl o n f cb lk q c0 c1 c2 c3 c4 c5) (hq : H.get q = .cells (nbc false false false false false false .nils lost) 56 12 .fixed) :
    ∃ H', EV H' bl o n f cb lk q c0 c1 c2 c3 c4 c5 ∧ H'.get q = .cells (nbc c0 false false false false false .nils lost) 56 12 .fixed ∧
      aden Ω5 b3_2 ⟨[(0, l), (3, .ptr cb 0), (5, .bool true), (6, .ptr q 0), (7, .sl lk 0 6 (some 6)), (8, .int .i64 0)], H, []⟩ = some (.normal, ⟨[(0, l), (3, .ptr cb 0), (5, .bool true), (6, .ptr q 0), (7, .sl lk 0 6 (some 6)), (8, .int .i64 1)], H', []⟩) := by
  have e := cut0 (b := c0) E.lq hq
  refine ⟨H.set q (.cells (nbc c0 false false false false false .nils lost) 56 12 .fixed), E.keep (Nat.le_refl _) ⟨_, by rw [AHeap.get_set, if_pos rfl]⟩ fun z _ h _ _ => by rw [AHeap.get_set, if_neg h], by rw [AHeap.get_set, if_pos rfl], ?_⟩
  have hc := E.hc
  have hl := E.hl
  have lc := E.lc
  have ll := E.ll
  have d1 : ¬ cb = q := by obtain ⟨Q, h⟩ := E.hq; exact ne_get hc h (by simp)
  have d2 : ¬ lk = q := by obtain ⟨Q, h⟩ := E.hq; exact ne_get hl h (by simp)
  unfold cbc at hc
  unfold lkc at hl
  unfold b3_2
  simp (maxSteps := 10000000) +contextual [go_sem, o5_11, e, hc, hl, lc, ll, d1, d2, IntKind.wrap_i64]
theorem cut1 {H : AHeap} {q : Nat} {c0 c1 c2 c3 c4 c5 b : Bool} {way : AVal} {lost : Int} (lq : q < H.n) (hq : H.get q = .cells (nbc c0 c1 c2 c3 c4 c5 way lost) 56 12 .fixed) :
    denF Ω0 none2 c11 [.ptr q 0, .int .i64 0, .int .i64 2, .bool b] H = some (.int .i64 0, H.set q (.cells (nbc c0 b c2 c3 c4 c5 way lost) 56 12 .fixed)) := by
  have n26 := nonec hq
  have lk : ∀ G, denF none2 none2 c27 [.int .i64 0, .int .i64 2] G = some (.bool true, G) := fun G => linkc (by omega) (by omega) (by omega) (by omega) (by omega)
  unfold nbc at hq ⊢
  unfold c11
  simp (maxSteps := 10000000) +contextual [go_sem, hq, lq, o0_26, o0_27, n26, lk]
theorem stepC1 {H : AHeap} {bl o n : Nat} {f : Nat → Int} {cb lk q : Nat} {c0 c1 c2 c3 c4 c5 : Bool} {l : AVal} {lost : Int} (E : EV H bl o n f cb lk q c0 c1 c2 c3 c4 c5) (hq : H.get q = .cells (nbc c0 false false false false false .nils lost) 56 12 .fixed) :
    ∃ H', EV H' bl o n f cb lk q c0 c1 c2 c3 c4 c5 ∧ H'.get q = .cells (nbc c0 c1 false false false false .nils lost) 56 12 .fixed ∧
      aden Ω5 b3_2 ⟨[(0, l), (3, .ptr cb 0), (5, .bool true), (6, .ptr q 0), (7, .sl lk 0 6 (some 6)), (8, .int .i64 1)], H, []⟩ = some (.normal, ⟨[(0, l), (3, .ptr cb 0), (5, .bool true), (6, .ptr q 0), (7, .sl lk 0 6 (some 6)), (8, .int .i64 2)], H', []⟩) := by
  have e := cut1 (b := c1) E.lq hq
  refine ⟨H.set q (.cells (nbc c0 c1 false false false false .nils lost) 56 12 .fixed), E.keep (Nat.le_refl _) ⟨_, by rw [AHeap.get_set, if_pos rfl]⟩ fun z _ h _ _ => by rw [AHeap.get_set, if_neg h], by rw [AHeap.get_set, if_pos rfl], ?_⟩
  have hc := E.hc
  have hl := E.hl
  have lc := E.lc
  have ll := E.ll
  have d1 : ¬ cb = q := by obtain ⟨Q, h⟩ := E.hq; exact ne_get hc h (by simp)
  have d2 : ¬ lk = q := by obtain ⟨Q, h⟩ := E.hq; exact ne_get hl h (by simp)
  unfold cbc at hc
  unfold lkc at hl
  unfold b3_2
  simp (maxSteps := 10000000) +contextual [go_sem, o5_11, e, hc, hl, lc, ll, d1, d2, IntKind.wrap_i64]
theorem cut2 {H : AHeap} {q : Nat} {c0 c1 c2 c3 c4 c5 b : Bool} {way : AVal} {lost : Int} (lq : q < H.n) (hq : H.get q = .cells (nbc c0 c1 c2 c3 c4 c5 way lost) 56 12 .fixed) :
    denF Ω0 none2 c11 [.ptr q 0, .int .i64 1, .int .i64 0, .bool b] H = some (.int .i64 0, H.set q (.cells (nbc c0 c1 b c3 c4 c5 way lost) 56 12 .fixed)) := by
  have n26 := nonec hq
  have lk : ∀ G, denF none2 none2 c27 [.int .i64 1, .int .i64 0] G = some (.bool true, G) := fun G => linkc (by omega) (by omega) (by omega) (by omega) (by omega)
  unfold nbc at hq ⊢
  unfold c11
  simp (maxSteps := 10000000) +contextual [go_sem, hq, lq, o0_26, o0_27, n26, lk]
theorem stepC2 {H : AHeap} {bl o n : Nat} {f : Nat → Int} {cb lk q : Nat} {c0 c1 c2 c3 c4 c5 : Bool} {l : AVal} {lost : Int} (E : EV H bl o n f cb lk q c0 c1 c2 c3 c4 c5) (hq : H.get q = .cells (nbc c0 c1 false false false false .nils lost) 56 12 .fixed) :
    ∃ H', EV H' bl o n f cb lk q c0 c1 c2 c3 c4 c5 ∧ H'.get q = .cells (nbc c0 c1 c2 false false false .nils lost) 56 12 .fixed ∧
      aden Ω5 b3_2 ⟨[(0, l), (3, .ptr cb 0), (5, .bool true), (6, .ptr q 0), (7, .sl lk 0 6 (some 6)), (8, .int .i64 2)], H, []⟩ = some (.normal, ⟨[(0, l), (3, .ptr cb 0), (5, .bool true), (6, .ptr q 0), (7, .sl lk 0 6 (some 6)), (8, .int .i64 3)], H', []⟩) := by
  have e := cut2 (b := c2) E.lq hq
  refine ⟨H.set q (.cells (nbc c0 c1 c2 false false false .nils lost) 56 12 .fixed), E.keep (Nat.le_refl _) ⟨_, by rw [AHeap.get_set, if_pos rfl]⟩ fun z _ h _ _ => by rw [AHeap.get_set, if_neg h], by rw [AHeap.get_set, if_pos rfl], ?_⟩
  have hc := E.hc
  have hl := E.hl
  have lc := E.lc
  have ll := E.ll
  have d1 : ¬ cb = q := by obtain ⟨Q, h⟩ := E.hq; exact ne_get hc h (by simp)
  have d2 : ¬ lk = q := by obtain ⟨Q, h⟩ := E.hq; exact ne_get hl h (by simp)
  unfold cbc at hc
  unfold lkc at hl
  unfold b3_2
  simp (maxSteps := 10000000) +contextual [go_sem, o5_11, e, hc, hl, lc, ll, d1, d2, IntKind.wrap_i64]
theorem cut3 {H : AHeap} {q : Nat} {c0 c1 c2 c3 c4 c5 b : Bool} {way : AVal} {lost : Int} (lq : q < H.n) (hq : H.get q = .cells (nbc c0 c1 c2 c3 c4 c5 way lost) 56 12 .fixed) :
    denF Ω0 none2 c11 [.ptr q 0, .int .i64 1, .int .i64 2, .bool b] H = some (.int .i64 0, H.set q (.cells (nbc c0 c1 c2 b c4 c5 way lost) 56 12 .fixed)) := by
  have n26 := nonec hq
  have lk : ∀ G, denF none2 none2 c27 [.int .i64 1, .int .i64 2] G = some (.bool true, G) := fun G => linkc (by omega) (by omega) (by omega) (by omega) (by omega)
  unfold nbc at hq ⊢
  unfold c11
  simp (maxSteps := 10000000) +contextual [go_sem, hq, lq, o0_26, o0_27, n26, lk]
theorem stepC3 {H : AHeap} {bl o n : Nat} {f : Nat → Int} {cb lk q : Nat} {c0 c1 c2 c3 c4 c5 : Bool} {l : AVal} {lost : Int} (E : EV H bl o n f cb lk q c0 c1 c2 c3 c4 c5) (hq : H.get q = .cells (nbc c0 c1 c2 false false false .nils lost) 56 12 .fixed) :
    ∃ H', EV H' bl o n f cb lk q c0 c1 c2 c3 c4 c5 ∧ H'.get q = .cells (nbc c0 c1 c2 c3 false false .nils lost) 56 12 .fixed ∧
      aden Ω5 b3_2 ⟨[(0, l), (3, .ptr cb 0), (5, .bool true), (6, .ptr q 0), (7, .sl lk 0 6 (some 6)), (8, .int .i64 3)], H, []⟩ = some (.normal, ⟨[(0, l), (3, .ptr cb 0), (5, .bool true), (6, .ptr q 0), (7, .sl lk 0 6 (some 6)), (8, .int .i64 4)], H', []⟩) := by
  have e := cut3 (b := c3) E.lq hq
  refine ⟨H.set q (.cells (nbc c0 c1 c2 c3 false false .nils lost) 56 12 .fixed), E.keep (Nat.le_refl _) ⟨_, by rw [AHeap.get_set, if_pos rfl]⟩ fun z _ h _ _ => by rw [AHeap.get_set, if_neg h], by rw [AHeap.get_set, if_pos rfl], ?_⟩
  have hc := E.hc
  have hl := E.hl
  have lc := E.lc
  have ll := E.ll
  have d1 : ¬ cb = q := by obtain ⟨Q, h⟩ := E.hq; exact ne_get hc h (by simp)
  have d2 : ¬ lk = q := by obtain ⟨Q, h⟩ := E.hq; exact ne_get hl h (by simp)
  unfold cbc at hc
  unfold lkc at hl
  unfold b3_2
  simp (maxSteps := 10000000) +contextual [go_sem, o5_11, e, hc, hl, lc, ll, d1, d2, IntKind.wrap_i64]
theorem cut4 {H : AHeap} {q : Nat} {c0 c1 c2 c3 c4 c5 b : Bool} {way : AVal} {lost : Int} (lq : q < H.n) (hq : H.get q = .cells (nbc c0 c1 c2 c3 c4 c5 way lost) 56 12 .fixed) :
    denF Ω0 none2 c11 [.ptr q 0, .int .i64 2, .int .i64 0, .bool b] H = some (.int .i64 0, H.set q (.cells (nbc c0 c1 c2 c3 b c5 way lost) 56 12 .fixed)) := by
  have n26 := nonec hq
  have lk : ∀ G, denF none2 none2 c27 [.int .i64 2, .int .i64 0] G = some (.bool true, G) := fun G => linkc (by omega) (by omega) (by omega) (by omega) (by omega)
  unfold nbc at hq ⊢
  unfold c11
  simp (maxSteps := 10000000) +contextual [go_sem, hq, lq, o0_26, o0_27, n26, lk]
theorem stepC4 {H : AHeap} {bl o n : Nat} {f : Nat → Int} {cb lk q : Nat} {c0 c1 c2 c3 c4 c5 : Bool} {l : AVal} {lost : Int} (E : EV H bl o n f cb lk q c0 c1 c2 c3 c4 c5) (hq : H.get q = .cells (nbc c0 c1 c2 c3 false false .nils lost) 56 12 .fixed) :
    ∃ H', EV H' bl o n f cb lk q c0 c1 c2 c3 c4 c5 ∧ H'.get q = .cells (nbc c0 c1 c2 c3 c4 false .nils lost) 56 12 .fixed ∧
      aden Ω5 b3_2 ⟨[(0, l), (3, .ptr cb 0), (5, .bool true), (6, .ptr q 0), (7, .sl lk 0 6 (some 6)), (8, .int .i64 4)], H, []⟩ = some (.normal, ⟨[(0, l), (3, .ptr cb 0), (5, .bool true), (6, .ptr q 0), (7, .sl lk 0 6 (some 6)), (8, .int .i64 5)], H', []⟩) := by
  have e := cut4 (b := c4) E.lq hq
  refine ⟨H.set q (.cells (nbc c0 c1 c2 c3 c4 false .nils lost) 56 12 .fixed), E.keep (Nat.le_refl _) ⟨_, by rw [AHeap.get_set, if_pos rfl]⟩ fun z _ h _ _ => by rw [AHeap.get_set, if_neg h], by rw [AHeap.get_set, if_pos rfl], ?_⟩
  have hc := E.hc
  have hl := E.hl
  have lc := E.lc
  have ll := E.ll
  have d1 : ¬ cb = q := by obtain ⟨Q, h⟩ := E.hq; exact ne_get hc h (by simp)
  have d2 : ¬ lk = q := by obtain ⟨Q, h⟩ := E.hq; exact ne_get hl h (by simp)
  unfold cbc at hc
  unfold lkc at hl
  unfold b3_2
  simp (maxSteps := 10000000) +contextual [go_sem, o5_11, e, hc, hl, lc, ll, d1, d2, IntKind.wrap_i64]
theorem cut5 {H : AHeap} {q : Nat} {c0 c1 c2 c3 c4 c5 b : Bool} {way : AVal} {lost : Int} (lq : q < H.n) (hq : H.get q = .cells (nbc c0 c1 c2 c3 c4 c5 way lost) 56 12 .fixed) :
    denF Ω0 none2 c11 [.ptr q 0, .int .i64 2, .int .i64 1, .bool b] H = some (.int .i64 0, H.set q (.cells (nbc c0 c1 c2 c3 c4 b way lost) 56 12 .fixed)) := by
  have n26 := nonec hq
  have lk : ∀ G, denF none2 none2 c27 [.int .i64 2, .int .i64 1] G = some (.bool true, G) := fun G => linkc (by omega) (by omega) (by omega) (by omega) (by omega)
  unfold nbc at hq ⊢
  unfold c11
  simp (maxSteps := 10000000) +contextual [go_sem, hq, lq, o0_26, o0_27, n26, lk]
theorem stepC5 {H : AHeap} {bl o n : Nat} {f : Nat → Int} {cb lk q : Nat} {c0 c1 c2 c3 c4 c5 : Bool} {l : AVal} {lost : Int} (E : EV H bl o n f cb lk q c0 c1 c2 c3 c4 c5) (hq : H.get q = .cells (nbc c0 c1 c2 c3 c4 false .nils lost) 56 12 .fixed) :
    ∃ H', EV H' bl o n f cb lk q c0 c1 c2 c3 c4 c5 ∧ H'.get q = .cells (nbc c0 c1 c2 c3 c4 c5 .nils lost) 56 12 .fixed ∧
      aden Ω5 b3_2 ⟨[(0, l), (3, .ptr cb 0), (5, .bool true), (6, .ptr q 0), (7, .sl lk 0 6 (some 6)), (8, .int .i64 5)], H, []⟩ = some (.normal, ⟨[(0, l), (3, .ptr cb 0), (5, .bool true), (6, .ptr q 0), (7, .sl lk 0 6 (some 6)), (8, .int .i64 6)], H', []⟩) := by
  have e := cut5 (b := c5) E.lq hq
  refine ⟨H.set q (.cells (nbc c0 c1 c2 c3 c4 c5 .nils lost) 56 12 .fixed), E.keep (Nat.le_refl _) ⟨_, by rw [AHeap.get_set, if_pos rfl]⟩ fun z _ h _ _ => by rw [AHeap.get_set, if_neg h], by rw [AHeap.get_set, if_pos rfl], ?_⟩
  have hc := E.hc
  have hl := E.hl
  have lc := E.lc
  have ll := E.ll
  have d1 : ¬ cb = q := by obtain ⟨Q, h⟩ := E.hq; exact ne_get hc h (by simp)
  have d2 : ¬ lk = q := by obtain ⟨Q, h⟩ := E.hq; exact ne_get hl h (by simp)
  unfold cbc at hc
  unfold lkc at hl
  unfold b3_2
  simp (maxSteps := 10000000) +contextual [go_sem, o5_11, e, hc, hl, lc, ll, d1, d2, IntKind.wrap_i64]
theorem cutsAll {H : AHeap} {bl o n : Nat} {f : Nat → Int} {cb lk q : Nat} {c0 c1 c2 c3 c4 c5 : Bool} {l : AVal} {lost : Int} (E : EV H bl o n f cb lk q c0 c1 c2 c3 c4 c5) (hq : H.get q = .cells (nbc false false false false false false .nils lost) 56 12 .fixed) :
    ∃ H', EV H' bl o n f cb lk q c0 c1 c2 c3 c4 c5 ∧ H'.get q = .cells (nbc c0 c1 c2 c3 c4 c5 .nils lost) 56 12 .fixed ∧
      iter (aden Ω5 b3_2) 7 ⟨[(0, l), (3, .ptr cb 0), (5, .bool true), (6, .ptr q 0), (7, .sl lk 0 6 (some 6)), (8, .int .i64 0)], H, []⟩ = some (.exit 0, ⟨[(0, l), (3, .ptr cb 0), (5, .bool true), (6, .ptr q 0), (7, .sl lk 0 6 (some 6)), (8, .int .i64 6), (37, .bool false)], H', []⟩) := by
  obtain ⟨H0, E0, q0, h0⟩ := stepC0 (l := l) E hq
  obtain ⟨H1, E1, q1, h1⟩ := stepC1 (l := l) E0 q0
  obtain ⟨H2, E2, q2, h2⟩ := stepC2 (l := l) E1 q1
  obtain ⟨H3, E3, q3, h3⟩ := stepC3 (l := l) E2 q2
  obtain ⟨H4, E4, q4, h4⟩ := stepC4 (l := l) E3 q3
  obtain ⟨H5, E5, q5, h5⟩ := stepC5 (l := l) E4 q4
  have h6 : aden Ω5 b3_2 ⟨[(0, l), (3, .ptr cb 0), (5, .bool true), (6, .ptr q 0), (7, .sl lk 0 6 (some 6)), (8, .int .i64 6)], H5, []⟩ = some (.exit 0, ⟨[(0, l), (3, .ptr cb 0), (5, .bool true), (6, .ptr q 0), (7, .sl lk 0 6 (some 6)), (8, .int .i64 6), (37, .bool false)], H5, []⟩) := by
    unfold b3_2
    simp (maxSteps := 10000000) +contextual [go_sem]
  refine ⟨H5, E5, q5, ?_⟩
  rw [show (7 : Nat) = 0 + 1 + 1 + 1 + 1 + 1 + 1 + 1 from rfl, iter_succ, h0, iterK_n, iter_succ, h1, iterK_n, iter_succ, h2, iterK_n, iter_succ, h3, iterK_n, iter_succ, h4, iterK_n, iter_succ, h5, iterK_n, iter_succ, h6, iterK_e]
theorem countc {H : AHeap} {q N : Nat} {c0 c1 c2 c3 c4 c5 : Bool} {way : AVal} {lost : Int} (hq : H.get q = .cells (nbc c0 c1 c2 c3 c4 c5 way lost) 56 12 .fixed) (hlen : lenK (some way) = some (.int .i64 N)) : denF Ω0 none2 c14 [.ptr q 0] H = some (.int .i64 N, H) := by
  have n26 := nonec hq
  unfold nbc at hq
  unfold c14
  simp (maxSteps := 10000000) +contextual [go_sem, hq, hlen, o0_26, n26]
theorem lostc {H : AHeap} {q : Nat} {c0 c1 c2 c3 c4 c5 : Bool} {way : AVal} {lost : Int} (hq : H.get q = .cells (nbc c0 c1 c2 c3 c4 c5 way lost) 56 12 .fixed) : denF Ω0 none2 c15 [.ptr q 0] H = some (.int .i64 lost, H) := by
  have n26 := nonec hq
  unfold nbc at hq
  unfold c15
  simp (maxSteps := 10000000) +contextual [go_sem, hq, o0_26, n26]
theorem new10c {H : AHeap} : denF none2 none2 c10 [] H = some (.ptr H.n 0, H.push (.cells (nbc false false false false false false .nils 0) 56 12 .fixed)) := new10
/-- What all is laid out ahead of the loops. -/
def G3 (H : AHeap) (c0 c1 c2 c3 c4 c5 : Bool) : AHeap := ((H.push (.cells (cbc c0 c1 c2 c3 c4 c5) 23 6 .fixed)).push (.cells (nbc false false false false false false .nils 0) 56 12 .fixed)).push (.cells lkc 27 2 .fixed)
theorem G3_n (H : AHeap) (c0 c1 c2 c3 c4 c5 : Bool) : (G3 H c0 c1 c2 c3 c4 c5).n = H.n + 1 + 1 + 1 := by simp [G3]
theorem G3_0 (H : AHeap) (c0 c1 c2 c3 c4 c5 : Bool) : (G3 H c0 c1 c2 c3 c4 c5).get H.n = .cells (cbc c0 c1 c2 c3 c4 c5) 23 6 .fixed := by
  unfold G3; rw [AHeap.get_push, if_neg (by simp only [AHeap.n_push]; omega), AHeap.get_push, if_neg (by simp only [AHeap.n_push]; omega), AHeap.get_push, if_pos rfl]
theorem G3_1 (H : AHeap) (c0 c1 c2 c3 c4 c5 : Bool) : (G3 H c0 c1 c2 c3 c4 c5).get (H.n + 1) = .cells (nbc false false false false false false .nils 0) 56 12 .fixed := by
  unfold G3; rw [AHeap.get_push, if_neg (by simp only [AHeap.n_push]; omega), AHeap.get_push, if_pos (by simp only [AHeap.n_push])]
theorem G3_2 (H : AHeap) (c0 c1 c2 c3 c4 c5 : Bool) : (G3 H c0 c1 c2 c3 c4 c5).get (H.n + 1 + 1) = .cells lkc 27 2 .fixed := by
  unfold G3; rw [AHeap.get_push, if_pos (by simp only [AHeap.n_push])]
theorem G3_z (H : AHeap) (c0 c1 c2 c3 c4 c5 : Bool) {z : Nat} (h : z < H.n) : (G3 H c0 c1 c2 c3 c4 c5).get z = H.get z := by
  unfold G3; rw [AHeap.get_push, if_neg (by simp only [AHeap.n_push]; omega), AHeap.get_push, if_neg (by simp only [AHeap.n_push]; omega), AHeap.get_push, if_neg (by omega)]
theorem law3 {H : AHeap} {bl o n : Nat} {c : Option Nat} {f : Nat → Int} {c0 c1 c2 c3 c4 c5 : Bool} (hM : ActsI H bl o n f) (hb : bl < H.n) :
    ∃ H', denF Ω5 none2 Go.Eng.SeatC.c3 [.sl bl o n c, .agg [.bool c0, .bool c1, .bool c2, .bool c3, .bool c4, .bool c5]] H = some (.bool true, H') := by
  have hnew := new10c (H := H.push (.cells [.bool c0, .bool c1, .bool c2, .bool c3, .bool c4, .bool c5] 23 6 .fixed))
  simp only [AHeap.n_push] at hnew
  by_cases hn : (100 : Int) < n
  · refine ⟨(H.push (.cells [.bool c0, .bool c1, .bool c2, .bool c3, .bool c4, .bool c5] 23 6 .fixed)).push (.cells (nbc false false false false false false .nils 0) 56 12 .fixed), ?_⟩
    unfold Go.Eng.SeatC.c3
    simp (maxSteps := 10000000) +contextual [go_sem, o5_9, o5_10, rTrue9, hnew, hn]
  · have E : EV (G3 H c0 c1 c2 c3 c4 c5) bl o n f H.n (H.n + 1 + 1) (H.n + 1) c0 c1 c2 c3 c4 c5 := by
      refine ⟨?_, by rw [G3_n]; omega, by rw [G3_n]; omega, G3_0 .., by rw [G3_n]; omega, G3_2 .., by rw [G3_n]; omega, ⟨_, G3_1 ..⟩⟩
      rcases hM with h | ⟨L, te, tes, h1, h2⟩
      · exact .inl h
      · exact .inr ⟨L, te, tes, (G3_z H c0 c1 c2 c3 c4 c5 hb).trans h1, h2⟩
    obtain ⟨H1, E1, q1, hc1⟩ := cutsAll (l := .sl bl o n c) E (G3_1 ..)
    have hc1 := iter_mono hc1 (show 7 ≤ fuel by unfold fuel; omega)
    have J0 : JO H1 bl o n f H.n (H.n + 1 + 1) (H.n + 1) c0 c1 c2 c3 c4 c5 .nils .nils [] 0 0 := ⟨E1, q1, .inl ⟨rfl, rfl⟩, .inl ⟨rfl, rfl⟩, by simp, by simp, by simp, by omega⟩
    obtain ⟨H2, way, want, ps, lost, J2, hs⟩ := loopO (c := c) (show n ≤ 100 by omega) n 0 (by omega) J0
    have hs := iter_mono hs (show n + 1 ≤ fuel by unfold fuel; omega)
    unfold tmS at hs
    rw [show ((0 : Nat) : Int) = 0 from rfl] at hs
    have wl := J2.t.len
    rw [List.length_map] at wl
    have hcnt := countc J2.hq J2.w.len
    have hlst := lostc J2.hq
    have hlo := J2.lost
    have hle := J2.le
    have hws : IntKind.i64.wrap ((n : Int) - (ps.length : Int)) = (n : Int) - ps.length := by rw [IntKind.wrap_i64]; omega
    have JD0 : JD H2 (H.n + 1 + 1) (H.n + 1) c0 c1 c2 c3 c4 c5 way want (ps.map (·.i)) ps lost 0 := ⟨J2.ev.lq, J2.hq, by
      rcases J2.w with h | ⟨w, _, a1, a2, a3⟩
      · exact .inl h
      · exact .inr ⟨w, [], a1, a2, by simpa using a3⟩, J2.pk, J2.ev.ll, J2.ev.hl, J2.t, by simp, by simp; omega⟩
    obtain ⟨H3, way3, JD3, hd⟩ := loopD3 ps 0 (by simp) JD0
    have hd := iter_mono hd (show ps.length + 1 ≤ fuel by unfold fuel; omega)
    unfold tmD at hd
    rw [show ((0 : Nat) : Int) = 0 from rfl] at hd
    have hc3 := countc JD3.hq JD3.wd.len
    simp only [List.length_nil, List.length_map] at hc3 hd
    unfold G3 cbc lkc at hc1
    refine ⟨H3, ?_⟩
    unfold Go.Eng.SeatC.c3
    simp (maxSteps := 10000000) +contextual [go_sem, o5_9, o5_10, o5_14, o5_15, rTrue9, hnew, hn, hc1, hs, wl, hcnt, hlst, hlo, hws, hd, hc3]
theorem law3n {H : AHeap} {c0 c1 c2 c3 c4 c5 : Bool} :
    ∃ H', denF Ω5 none2 Go.Eng.SeatC.c3 [.nils, .agg [.bool c0, .bool c1, .bool c2, .bool c3, .bool c4, .bool c5]] H = some (.bool true, H') := by
  have hnew := new10c (H := H.push (.cells [.bool c0, .bool c1, .bool c2, .bool c3, .bool c4, .bool c5] 23 6 .fixed))
  simp only [AHeap.n_push] at hnew
  have E : EV (G3 H c0 c1 c2 c3 c4 c5) H.n 0 0 (fun _ => 0) H.n (H.n + 1 + 1) (H.n + 1) c0 c1 c2 c3 c4 c5 :=
    ⟨.inl rfl, by rw [G3_n]; omega, by rw [G3_n]; omega, G3_0 .., by rw [G3_n]; omega, G3_2 .., by rw [G3_n]; omega, ⟨_, G3_1 ..⟩⟩
  obtain ⟨H1, E1, q1, hc1⟩ := cutsAll (l := .nils) E (G3_1 ..)
  have hc1 := iter_mono hc1 (show 7 ≤ fuel by unfold fuel; omega)
  have hs : iter (aden Ω5 b3_1) (0 + 1) ⟨[(0, .nils), (3, .ptr H.n 0), (5, .bool true), (6, .ptr (H.n + 1) 0), (7, .sl (H.n + 1 + 1) 0 6 (some 6)), (9, .nils), (10, .int .i64 0)], H1, []⟩ = some (.exit 2, ⟨[(0, .nils), (3, .ptr H.n 0), (5, .bool true), (6, .ptr (H.n + 1) 0), (7, .sl (H.n + 1 + 1) 0 6 (some 6)), (9, .nils), (10, .int .i64 0), (59, .bool false)], H1, []⟩) := by
    rw [iter_succ]
    unfold b3_1
    simp (maxSteps := 10000000) +contextual [go_sem]
  have hs := iter_mono hs (show 0 + 1 ≤ fuel by unfold fuel; omega)
  have hcnt := countc (N := 0) q1 rfl
  have hlst := lostc q1
  have hd : iter (aden Ω5 b3_0) (0 + 1) ⟨[(5, .bool true), (6, .ptr (H.n + 1) 0), (7, .sl (H.n + 1 + 1) 0 6 (some 6)), (9, .nils), (12, .int .i64 0)], H1, []⟩ = some (.exit 4, ⟨[(5, .bool true), (6, .ptr (H.n + 1) 0), (7, .sl (H.n + 1 + 1) 0 6 (some 6)), (9, .nils), (12, .int .i64 0), (112, .bool false)], H1, []⟩) := by
    rw [iter_succ]
    unfold b3_0
    simp (maxSteps := 10000000) +contextual [go_sem]
  have hd := iter_mono hd (show 0 + 1 ≤ fuel by unfold fuel; omega)
  have hw0 : IntKind.i64.wrap 0 = 0 := by rw [IntKind.wrap_i64]; omega
  unfold G3 cbc lkc at hc1
  refine ⟨H1, ?_⟩
  unfold Go.Eng.SeatC.c3
  simp (maxSteps := 10000000) +contextual [go_sem, o5_9, o5_10, o5_14, o5_15, rTrue9, hnew, hc1, hs, hcnt, hlst, hd, hw0]
theorem s3 : Sound Try.prog 3 (denF Ω5 none2 c3) := fun_sound oko5 none_soundD mixed Try.func3 cal3 comp3
end Go.Eng.SeatC

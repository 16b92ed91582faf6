/- Layer 16: LeaseOne. -/
import Derived.Test.YtakblaaipaehjaaSaB2
import Derived.Test.YtakblaaipaehjaaEngLeafK
set_option linter.unusedSimpArgs false
set_option linter.unusedVariables false
set_option maxHeartbeats 40000000
namespace Go.Eng.SeatA
open Go.Proofs
theorem stepL {H : AHeap} {bl o n : Nat} {c : Option Nat} {f : Nat → Act7} {A P : Nat} {a0 a1 a2 T0 F0 T1 F1 T2 F2 : Int} {all : AVal} {es : List Ent} {i : Nat} (J : JL H bl o n f A P a0 a1 a2 T0 F0 T1 F1 T2 F2 all es i) (hi : i < n) (hn : n ≤ 120) :
    ∃ H' a0' a1' a2' T0' F0' T1' F1' T2' F2' all' es', JL H' bl o n f A P a0' a1' a2' T0' F0' T1' F1' T2' F2' all' es' (i + 1) ∧
      aden Φ8 b8_3 ⟨tmL bl o n c A P all i, H, []⟩ = some (.normal, ⟨tmL bl o n c A P all' (i + 1), H', []⟩) := by
  by_cases k2 : kindL (f i) = 2
  · by_cases hs : toL (f i) = (f i).nd % 2 ∨ barsL (sel T0 T1 T2 ((f i).nd % 2)) (sel F0 F1 F2 ((f i).nd % 2)) ((f i).nd % 2) (sel a0 a1 a2 ((f i).nd % 2)) = true
    · obtain ⟨H', J', h⟩ := stepS (c := c) J hi hn k2 hs
      exact ⟨H', _, _, _, _, _, _, _, _, _, _, _, J', h⟩
    · have h1 : ¬ toL (f i) = (f i).nd % 2 := fun h => hs (.inl h)
      have h2 : barsL (sel T0 T1 T2 ((f i).nd % 2)) (sel F0 F1 F2 ((f i).nd % 2)) ((f i).nd % 2) (sel a0 a1 a2 ((f i).nd % 2)) = false := by
        cases hb : barsL (sel T0 T1 T2 ((f i).nd % 2)) (sel F0 F1 F2 ((f i).nd % 2)) ((f i).nd % 2) (sel a0 a1 a2 ((f i).nd % 2)) with
        | false => rfl
        | true => exact absurd (.inr hb) hs
      obtain ⟨H', b, d, e, g, k, l, m, p, J', h⟩ := stepA (c := c) J hi hn k2 h1 h2
      exact ⟨H', _, _, _, b, d, e, g, k, l, m, p, J', h⟩
  · by_cases k3 : kindL (f i) = 3
    · by_cases he : es = []
      · obtain ⟨H', J', h⟩ := stepG0 (c := c) J hi hn k3 he
        exact ⟨H', _, _, _, _, _, _, _, _, _, _, _, J', h⟩
      · have hl : 0 < es.length := by
          cases es with
          | nil => exact absurd rfl he
          | cons _ _ => simp
        obtain ⟨k, hidx, hk⟩ := idxL_of (f i) hl (Nat.le_trans J.len J.base.hi)
        by_cases hs : es[k].given = true ∨ barsL (sel T0 T1 T2 es[k].to) (sel F0 F1 F2 es[k].to) es[k].node (sel a0 a1 a2 es[k].to) = true
        · obtain ⟨H', J', h⟩ := stepG1 (c := c) J hi hn k3 hk hidx hs
          exact ⟨H', _, _, _, _, _, _, _, _, _, _, _, J', h⟩
        · have h1 : es[k].given = false := by
            cases hb : es[k].given with
            | false => rfl
            | true => exact absurd (.inl hb) hs
          have h2 : barsL (sel T0 T1 T2 es[k].to) (sel F0 F1 F2 es[k].to) es[k].node (sel a0 a1 a2 es[k].to) = false := by
            cases hb : barsL (sel T0 T1 T2 es[k].to) (sel F0 F1 F2 es[k].to) es[k].node (sel a0 a1 a2 es[k].to) with
            | false => rfl
            | true => exact absurd (.inr hb) hs
          obtain ⟨H', b, d, e, g, m, l, p, q, J', h⟩ := stepG2 (c := c) J hi hn k3 hk hidx h1 h2
          exact ⟨H', _, _, _, b, d, e, g, m, l, p, q, J', h⟩
    · obtain ⟨H', b, d, e, J', h⟩ := stepT (c := c) J hi hn k2 k3
      exact ⟨H', b, d, e, _, _, _, _, _, _, _, _, J', h⟩
theorem lastL {H : AHeap} {bl o n : Nat} {c : Option Nat} {A P : Nat} {all : AVal} :
    aden Φ8 b8_3 ⟨tmL bl o n c A P all n, H, []⟩ = some (.exit 2, ⟨[(1, .sl bl o n c), (2, .ptr A 0), (5, .bool true), (7, .ptr P 0), (8, all), (9, .int .i64 n), (46, .bool false)], H, []⟩) := by
  unfold b8_3 tmL
  simp (maxSteps := 10000000) +contextual [go_sem]
theorem loopL {bl o n : Nat} {c : Option Nat} {f : Nat → Act7} {A P : Nat} (hn : n ≤ 120) : ∀ (j i : Nat), i + j = n → ∀ {H : AHeap} {a0 a1 a2 T0 F0 T1 F1 T2 F2 : Int} {all : AVal} {es : List Ent}, JL H bl o n f A P a0 a1 a2 T0 F0 T1 F1 T2 F2 all es i →
    ∃ H' all', iter (aden Φ8 b8_3) (j + 1) ⟨tmL bl o n c A P all i, H, []⟩ = some (.exit 2, ⟨[(1, .sl bl o n c), (2, .ptr A 0), (5, .bool true), (7, .ptr P 0), (8, all'), (9, .int .i64 n), (46, .bool false)], H', []⟩) := by
  intro j
  induction j with
  | zero =>
    intro i hi H a0 a1 a2 T0 F0 T1 F1 T2 F2 all es J
    have hi' : i = n := by omega
    subst hi'
    exact ⟨H, all, by rw [iter_succ, lastL]; rfl⟩
  | succ j ih =>
    intro i hi H a0 a1 a2 T0 F0 T1 F1 T2 F2 all es J
    obtain ⟨H1, _, _, _, _, _, _, _, _, _, all1, es1, J1, hs⟩ := stepL (c := c) J (show i < n by omega) hn
    obtain ⟨H2, all2, h2⟩ := ih (i + 1) (by omega) J1
    exact ⟨H2, all2, by rw [iter_succ, hs, iterK_n]; exact h2⟩
theorem initL {H : AHeap} {l : AVal} {A : Nat} {a0 a1 a2 : Int} (hA : H.get A = .cells [.int .i64 a0, .int .i64 a1, .int .i64 a2] 37 3 .fixed) (k : Nat) (hk : k < 3) :
    aden Φ8 b8_4 ⟨[(1, l), (2, .ptr A 0), (5, .bool true), (6, .int .i64 k)], H, []⟩ = if (0 ≤ sel a0 a1 a2 k ∧ sel a0 a1 a2 k ≤ 1073741824) then some (.normal, ⟨[(1, l), (2, .ptr A 0), (5, .bool true), (6, .int .i64 (k + 1 : Nat))], H, []⟩) else some (.ret, ⟨[(4, .bool true)], H, []⟩) := by
  rcases (show k = 0 ∨ k = 1 ∨ k = 2 by omega) with rfl | rfl | rfl
  all_goals
    unfold b8_4
    simp only [sel]
    simp (maxSteps := 10000000) +contextual [go_sem, hA, IntKind.wrap_i64]
    repeat' split
    all_goals (first | rfl | (exfalso; omega))
theorem lastI {H : AHeap} {l : AVal} {A : Nat} :
    aden Φ8 b8_4 ⟨[(1, l), (2, .ptr A 0), (5, .bool true), (6, .int .i64 (0 + 1 + 1 + 1 : Nat))], H, []⟩ = some (.exit 0, ⟨[(1, l), (2, .ptr A 0), (5, .bool true), (6, .int .i64 3), (25, .bool false)], H, []⟩) := by
  unfold b8_4
  simp (maxSteps := 10000000) +contextual [go_sem]
theorem loopI {H : AHeap} {l : AVal} {A : Nat} {a0 a1 a2 : Int} (hA : H.get A = .cells [.int .i64 a0, .int .i64 a1, .int .i64 a2] 37 3 .fixed) :
    iter (aden Φ8 b8_4) 4 ⟨[(1, l), (2, .ptr A 0), (5, .bool true), (6, .int .i64 (0 : Nat))], H, []⟩ = some (.ret, ⟨[(4, .bool true)], H, []⟩) ∨
    ((0 ≤ a0 ∧ a0 ≤ 1073741824) ∧ (0 ≤ a1 ∧ a1 ≤ 1073741824) ∧ (0 ≤ a2 ∧ a2 ≤ 1073741824)) ∧ iter (aden Φ8 b8_4) 4 ⟨[(1, l), (2, .ptr A 0), (5, .bool true), (6, .int .i64 (0 : Nat))], H, []⟩ = some (.exit 0, ⟨[(1, l), (2, .ptr A 0), (5, .bool true), (6, .int .i64 3), (25, .bool false)], H, []⟩) := by
  have e0 := initL (l := l) hA 0 (by omega)
  have e1 := initL (l := l) hA (0 + 1) (by omega)
  have e2 := initL (l := l) hA (0 + 1 + 1) (by omega)
  rw [show sel a0 a1 a2 ((0 : Nat) : Int) = a0 from rfl] at e0
  rw [show sel a0 a1 a2 ((0 + 1 : Nat) : Int) = a1 from rfl] at e1
  rw [show sel a0 a1 a2 ((0 + 1 + 1 : Nat) : Int) = a2 from rfl] at e2
  rw [show (4 : Nat) = 0 + 1 + 1 + 1 + 1 from rfl, iter_succ]
  by_cases c0 : 0 ≤ a0 ∧ a0 ≤ 1073741824
  case neg => rw [if_neg c0] at e0; exact .inl (by rw [e0, iterK_r])
  rw [if_pos c0] at e0
  rw [e0, iterK_n, iter_succ]
  by_cases c1 : 0 ≤ a1 ∧ a1 ≤ 1073741824
  case neg => rw [if_neg c1] at e1; exact .inl (by rw [e1, iterK_r])
  rw [if_pos c1] at e1
  rw [e1, iterK_n, iter_succ]
  by_cases c2 : 0 ≤ a2 ∧ a2 ≤ 1073741824
  case neg => rw [if_neg c2] at e2; exact .inl (by rw [e2, iterK_r])
  rw [if_pos c2] at e2
  rw [e2, iterK_n, iter_succ, lastI, iterK_e]
  exact .inr ⟨⟨c0, c1, c2⟩, rfl⟩
theorem law8 {H : AHeap} {bl o n : Nat} {c : Option Nat} {f : Nat → Act7} {a0 a1 a2 : Int} (hM : Acts H bl o n f) (hb : bl < H.n) :
    ∃ H', denF Φ8 none2 c8 [.agg [.int .i64 a0, .int .i64 a1, .int .i64 a2], .sl bl o n c] H = some (.bool true, H') := by
  by_cases hn : (120 : Int) < n
  · refine ⟨H.push (.cells [.int .i64 a0, .int .i64 a1, .int .i64 a2] 37 3 .fixed), ?_⟩
    unfold c8
    simp (maxSteps := 10000000) +contextual [go_sem, p8_6, r6, hn]
  · have hA : (H.push (.cells [.int .i64 a0, .int .i64 a1, .int .i64 a2] 37 3 .fixed)).get H.n = .cells [.int .i64 a0, .int .i64 a1, .int .i64 a2] 37 3 .fixed := by rw [AHeap.get_push, if_pos rfl]
    rcases loopI (l := .sl bl o n c) hA with h | ⟨⟨c0, c1, c2⟩, h⟩
    · have h := iter_mono h (show 4 ≤ fuel by unfold fuel; omega)
      rw [show ((0 : Nat) : Int) = 0 from rfl] at h
      refine ⟨H.push (.cells [.int .i64 a0, .int .i64 a1, .int .i64 a2] 37 3 .fixed), ?_⟩
      unfold c8
      simp (maxSteps := 10000000) +contextual [go_sem, p8_6, r6, hn, h]
    · have h := iter_mono h (show 4 ≤ fuel by unfold fuel; omega)
      rw [show ((0 : Nat) : Int) = 0 from rfl] at h
      have n1 : ¬ bl = H.n := by omega
      have n2 : ¬ bl = H.n + 1 := by omega
      have n3 : ¬ H.n = H.n + 1 := by omega
      have J : JL (((H.push (.cells [.int .i64 a0, .int .i64 a1, .int .i64 a2] 37 3 .fixed)).push (.cells [.int .i64 0, .int .i64 0, .int .i64 0, .int .i64 0, .int .i64 0, .int .i64 0] 39 6 .fixed)).set (H.n + 1) (.cells [.int .i64 (-1), .int .i64 0, .int .i64 (-1), .int .i64 0, .int .i64 (-1), .int .i64 0] 39 6 .fixed)) bl o n f H.n (H.n + 1) a0 a1 a2 (-1) 0 (-1) 0 (-1) 0 .nils [] 0 :=
        ⟨hM.mono (by simp [AHeap.get_push, AHeap.get_set, n1, n2]), by simp; omega, by simp; omega, by simp, by omega, by omega, by omega, by simp [AHeap.get_push, AHeap.get_set], by simp [AHeap.get_set], .inl ⟨rfl, rfl⟩, ⟨by omega, by omega, by omega, by omega, by omega, by omega, by omega, by omega, by omega, by omega⟩, by simp, by simp⟩
      obtain ⟨H', all', h2⟩ := loopL (c := c) (show n ≤ 120 by omega) n 0 (by omega) J
      have h2 := iter_mono h2 (show n + 1 ≤ fuel by unfold fuel; omega)
      unfold tmL at h2
      rw [show ((0 : Nat) : Int) = 0 from rfl] at h2
      refine ⟨H', ?_⟩
      unfold c8
      simp (maxSteps := 10000000) +contextual [go_sem, p8_6, r6, hn, h, h2]
theorem law8n {H : AHeap} {a0 a1 a2 : Int} :
    ∃ H', denF Φ8 none2 c8 [.agg [.int .i64 a0, .int .i64 a1, .int .i64 a2], .nils] H = some (.bool true, H') := by
  have hA : (H.push (.cells [.int .i64 a0, .int .i64 a1, .int .i64 a2] 37 3 .fixed)).get H.n = .cells [.int .i64 a0, .int .i64 a1, .int .i64 a2] 37 3 .fixed := by rw [AHeap.get_push, if_pos rfl]
  rcases loopI (l := .nils) hA with h | ⟨_, h⟩
  · have h := iter_mono h (show 4 ≤ fuel by unfold fuel; omega)
    rw [show ((0 : Nat) : Int) = 0 from rfl] at h
    refine ⟨H.push (.cells [.int .i64 a0, .int .i64 a1, .int .i64 a2] 37 3 .fixed), ?_⟩
    unfold c8
    simp (maxSteps := 10000000) +contextual [go_sem, p8_6, r6, h]
  · have h := iter_mono h (show 4 ≤ fuel by unfold fuel; omega)
    rw [show ((0 : Nat) : Int) = 0 from rfl] at h
    have h2 : ∀ G, iter (aden Φ8 b8_3) (0 + 1) ⟨[(1, .nils), (2, .ptr H.n 0), (5, .bool true), (7, .ptr (H.n + 1) 0), (8, .nils), (9, .int .i64 0)], G, []⟩ = some (.exit 2, ⟨[(1, .nils), (2, .ptr H.n 0), (5, .bool true), (7, .ptr (H.n + 1) 0), (8, .nils), (9, .int .i64 0), (46, .bool false)], G, []⟩) := by
      intro G
      rw [iter_succ]
      unfold b8_3
      simp (maxSteps := 10000000) +contextual [go_sem]
    have h2 := fun G => iter_mono (h2 G) (show 0 + 1 ≤ fuel by unfold fuel; omega)
    unfold c8
    simp (maxSteps := 10000000) +contextual [go_sem, p8_6, r6, h, h2]
theorem s8 : Sound Try.prog 8 (denF Φ8 none2 c8) := fun_sound ok8 none_soundD mixed Try.func8 cal8 comp8
section
open Go.ChangeShapes Go.WideShapes Go.ChangeAt Go.RowKit
def act7LK : List LK := List.replicate 7 (.int .i64)
theorem fit_act7 {vs : List Value} (h : fitK act7LK vs) : ∃ x : Act7, vs.map av0 = x.cs := by
  obtain ⟨xs, hx, _⟩ := fit_ints 7 vs h
  have e := intsOf_eq hx
  have hl : xs.length = 7 := by
    have := congrArg List.length e
    have h2 := fitK_length h
    simp [act7LK] at this h2; omega
  match xs, hl with
  | [a, b, c, d, e', f, g], _ => exact ⟨⟨a, b, c, d, e', f, g⟩, by rw [e]; rfl⟩
theorem acts_of {H : Type} {enc : TypeId × Value → H} {P : Program} {W : World} {r : Reach} {base : Nat} {t e : TypeId} {v : Value} {d : DataW H} {p : List MemPlace} {n : Nat} (ht : P.underlying t = some (.slice e)) (he : leaves P n e = some act7LK) (hk : P.cellsOf e = 7) (hv : Value.okWide P W r base t v)
    (hA : DataW.Trod enc P W 0 (fun _ => true) true t v d p) : avv W.heap.size v = .nils ∨ ∃ (b o len cap : Nat) (f : Nat → Act7), avv W.heap.size v = .sl b o len (some cap) ∧ b < (heapOf W).n ∧ Acts (heapOf W) b o len f := by
  rcases slice_cells ht he hk rfl hv hA with h | ⟨b, o, len, cap, L, te, g, h, hb, hl, hg, hle, hc⟩
  · exact .inl h
  · refine .inr ⟨b, o, len, cap, fun i => if hi : i < len then Classical.choose (fit_act7 (hc i hi).2) else ⟨0, 0, 0, 0, 0, 0, 0⟩, h, hb, L, te, 1, .ro, hg, hle, fun i hi => ?_⟩
    simp only [dif_pos hi]
    exact (hc i hi).1.trans (Classical.choose_spec (fit_act7 (hc i hi).2))
end
end Go.Eng.SeatA

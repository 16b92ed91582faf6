/- Layer 14: NetKeeps, put together. -/
import Derived.Test.YtgmaknppneonfaaScT
import Derived.Test.YtgmaknppneonfaaScD
set_option linter.unusedSimpArgs false
set_option linter.unusedVariables false
set_option maxHeartbeats 40000000
namespace Go.Eng.SeatC
open Go.Proofs
theorem stepK {H : AHeap} {bl o n : Nat} {c : Option Nat} {g : Nat → Ac} {q : Nat} {way sent : AVal} {ss : List Ac} {ps : List Pq} {lost many came : Int} {i : Nat} (J : JK H bl o n g q way sent ss ps lost many came i) (hi : i < n) (hn : n ≤ 120) : KStep g q c bl o n i H sent many came := by
  by_cases k0 : (g i).k = 0
  · exact stepK0 J hi hn k0
  by_cases k1 : (g i).k = 1
  · exact stepK1 J hi hn k1
  by_cases k2 : (g i).k = 2
  · exact stepK2 J hi hn k2
  by_cases k3 : (g i).k = 3
  · exact stepK3 J hi hn k3
  by_cases k4 : (g i).k = 4
  · exact stepK4 J hi hn k4
  by_cases k5 : (g i).k = 5
  · exact stepK5 J hi hn k5
  by_cases k6 : (g i).k = 6
  · exact stepK6 J hi hn k6
  exact stepKn J hi hn ⟨k0, k1, k2, k3, k4, k5, k6⟩
theorem lastK {H : AHeap} {bl o n : Nat} {c : Option Nat} {q : Nat} {sent : AVal} {many came : Int} :
    aden Ω8 b6_0 ⟨tmK bl o n c q sent many came n, H, []⟩ = some (.exit 0, ⟨[(0, .sl bl o n c), (3, .bool true), (4, .ptr q 0), (5, sent), (6, .int .i64 many), (7, .int .i64 came), (8, .int .i64 n), (29, .bool false)], H, []⟩) := by
  unfold b6_0 tmK
  simp (maxSteps := 10000000) +contextual [go_sem]
theorem loopK {bl o n : Nat} {c : Option Nat} {g : Nat → Ac} {q : Nat} (hn : n ≤ 120) : ∀ (j i : Nat), i + j = n → ∀ {H : AHeap} {way sent : AVal} {ss : List Ac} {ps : List Pq} {lost many came : Int}, JK H bl o n g q way sent ss ps lost many came i →
    ∃ H' sent' many' came', iter (aden Ω8 b6_0) (j + 1) ⟨tmK bl o n c q sent many came i, H, []⟩ = some (.exit 0, ⟨[(0, .sl bl o n c), (3, .bool true), (4, .ptr q 0), (5, sent'), (6, .int .i64 many'), (7, .int .i64 came'), (8, .int .i64 n), (29, .bool false)], H', []⟩) := by
  intro j
  induction j with
  | zero =>
    intro i hi H way sent ss ps lost many came J
    have hi' : i = n := by omega
    subst hi'
    exact ⟨H, sent, many, came, by rw [iter_succ, lastK]; rfl⟩
  | succ j ih =>
    intro i hi H way sent ss ps lost many came J
    obtain ⟨H1, w1, t1, s1, p1, l1, m1, c1, J1, hs⟩ := stepK (c := c) J (by omega) hn
    obtain ⟨H2, t2, m2, c2, h2⟩ := ih (i + 1) (by omega) J1
    exact ⟨H2, t2, m2, c2, by rw [iter_succ, hs, iterK_n]; exact h2⟩
theorem law6 {H : AHeap} {bl o n : Nat} {c : Option Nat} {g : Nat → Ac} (hM : ActsK H bl o n g) (hb : bl < H.n) :
    ∃ H', denF Ω8 none2 c6 [.sl bl o n c] H = some (.bool true, H') := by
  have hnew := new10 (H := H)
  by_cases hn : (120 : Int) < n
  · refine ⟨H.push (.cells (nb .nils 0) 56 12 .fixed), ?_⟩
    unfold c6
    simp (maxSteps := 10000000) +contextual [go_sem, o8_9, o8_10, rTrue9, hnew, hn]
  · have hq : NetQ (H.push (.cells (nb .nils 0) 56 12 .fixed)) H.n .nils 0 := ⟨by simp, false, false, false, false, false, false, false, false, false, by rw [AHeap.get_push, if_pos rfl]; rfl⟩
    have acts : ActsK (H.push (.cells (nb .nils 0) 56 12 .fixed)) bl o n g := by
      rcases hM with h | ⟨L, te, tes, h1, h2⟩
      · exact .inl h
      · exact .inr ⟨L, te, tes, by rw [AHeap.get_push, if_neg (by omega)]; exact h1, h2⟩
    have J0 : JK (H.push (.cells (nb .nils 0) 56 12 .fixed)) bl o n g H.n .nils .nils [] [] 0 0 0 0 := ⟨⟨acts, by simp; omega, .inl ⟨rfl, rfl⟩⟩, hq, .inl ⟨rfl, rfl⟩, by simp, by simp, by simp, by simp, by simp, by simp, by omega⟩
    obtain ⟨H2, sent, many, came, hs⟩ := loopK (c := c) (show n ≤ 120 by omega) n 0 (by omega) J0
    have hs := iter_mono hs (show n + 1 ≤ fuel by unfold fuel; omega)
    unfold tmK at hs
    rw [show ((0 : Nat) : Int) = 0 from rfl] at hs
    refine ⟨H2, ?_⟩
    unfold c6
    simp (maxSteps := 10000000) +contextual [go_sem, o8_9, o8_10, rTrue9, hnew, hn, hs]
theorem law6n {H : AHeap} : ∃ H', denF Ω8 none2 c6 [.nils] H = some (.bool true, H') := by
  have hnew := new10 (H := H)
  have hs : iter (aden Ω8 b6_0) (0 + 1) ⟨[(0, .nils), (3, .bool true), (4, .ptr H.n 0), (5, .nils), (6, .int .i64 0), (7, .int .i64 0), (8, .int .i64 0)], H.push (.cells (nb .nils 0) 56 12 .fixed), []⟩ = some (.exit 0, ⟨[(0, .nils), (3, .bool true), (4, .ptr H.n 0), (5, .nils), (6, .int .i64 0), (7, .int .i64 0), (8, .int .i64 0), (29, .bool false)], H.push (.cells (nb .nils 0) 56 12 .fixed), []⟩) := by
    rw [iter_succ]
    unfold b6_0
    simp (maxSteps := 10000000) +contextual [go_sem]
  have hs := iter_mono hs (show 0 + 1 ≤ fuel by unfold fuel; omega)
  refine ⟨H.push (.cells (nb .nils 0) 56 12 .fixed), ?_⟩
  unfold c6
  simp (maxSteps := 10000000) +contextual [go_sem, o8_9, o8_10, rTrue9, hnew, hs]
def r6 : List AVal → Option AVal := fun _ => some (.bool true)
theorem s6 : Sound Try.prog 6 (denF Ω8 none2 c6) := fun_sound oko8 none_soundD mixed Try.func6 cal6 comp6
end Go.Eng.SeatC
namespace Go.Eng.SeatC
open Go.ChangeShapes Go.WideShapes Go.ChangeAt Go.RowKit
def actLK' : List LK := [.int .i64, .int .i64, .int .i64, .bool, .sl]
theorem fit_act : ∀ {vs : List Value}, fitK actLK' vs → ∃ a : Ac, vs.map av0 = a.cells
  | [_, _, _, _, _], h => by
    obtain ⟨⟨a, rfl, _⟩, ⟨b, rfl, _⟩, ⟨c, rfl, _⟩, ⟨d, rfl⟩, ⟨e, n, c', rfl, _⟩, _⟩ := h
    exact ⟨⟨a, b, c, d, av0 (.slice e n c'), rfl⟩, rfl⟩
  | [], h => h.elim
  | [_], h => h.2.elim
  | [_, _], h => h.2.2.elim
  | [_, _, _], h => h.2.2.2.elim
  | [_, _, _, _], h => h.2.2.2.2.elim
  | _ :: _ :: _ :: _ :: _ :: _ :: _, h => h.2.2.2.2.2.elim
theorem actsK_of {H : Type} {enc : TypeId × Value → H} {P : Program} {W : World} {r : Reach} {base : Nat} {t e : TypeId} {v : Value} {d : DataW H} {p : List MemPlace} {n : Nat} (ht : P.underlying t = some (.slice e)) (he : leaves P n e = some actLK') (hk : P.cellsOf e = 5) (hv : Value.okWide P W r base t v)
    (hA : DataW.Trod enc P W 0 (fun _ => true) true t v d p) : avv W.heap.size v = .nils ∨ ∃ (b o len cap : Nat) (g : Nat → Ac), avv W.heap.size v = .sl b o len (some cap) ∧ b < (heapOf W).n ∧ ActsK (heapOf W) b o len g := by
  rcases slice_cells ht he hk rfl hv hA with h | ⟨b, o, len, cap, L, te, g, h, hb, hl, hg, hle, hc⟩
  · exact .inl h
  · refine .inr ⟨b, o, len, cap, fun i => if hi : i < len then Classical.choose (fit_act (hc i hi).2) else ⟨0, 0, 0, false, .nils, rfl⟩, h, hb, .inr ⟨L, te, 1, hg, fun i hi => ⟨?_, ?_⟩⟩⟩
    · have := Nat.mul_le_mul_right 5 (show i + 1 ≤ len by omega)
      omega
    · simp only [dif_pos hi]
      exact (hc i hi).1.trans (Classical.choose_spec (fit_act (hc i hi).2))
end Go.Eng.SeatC

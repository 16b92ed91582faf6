/- Layer 16: LeaseApart. -/
import Derived.Test.YtakblaaipaehjaaSaM
import Derived.Test.YtakblaaipaehjaaEngLeafK
set_option linter.unusedSimpArgs false
set_option linter.unusedVariables false
set_option maxHeartbeats 40000000
namespace Go.Eng.SeatA
open Go.Proofs
def Φ8 : Phi := updP Φ7 6 (pspec r6)
theorem ok8 : ∀ f, Sound Try.prog f (Φ8 f) := updP_ok ok7 s6
theorem p8_6 (l : List AVal) (H : AHeap) : Φ8 6 l H = pspec r6 l H := (rfl)
theorem p8_24 (l : List AVal) (H : AHeap) : Φ8 24 l H = rspec r24 l H := (rfl)
theorem p8_15 (l : List AVal) (H : AHeap) : Φ8 15 l H = pspec r15 l H := (rfl)
theorem p8_19 (l : List AVal) (H : AHeap) : Φ8 19 l H = pspec r19 l H := (rfl)
theorem keeps_two (H : AHeap) (x y : Int) : sliceInts (H.push (.cells [.int .i64 x, .int .i64 y] 3 1 .fixed)) (.sl H.n 0 2 (some 2)) = some [x, y] := by
  simp [sliceInts, AHeap.get_push, AVal.scals, AVal.scal, intsOf]
theorem stepA1 {l : List AVal} {e : TypeId} {es : Nat} {m : Mode} {H : AHeap} (hH : H.get 0 = .cells l e es m) (h0 : 0 < H.n) {o n i : Nat} {c : Option Nat} {asks gives ask give x y : Int} (hi : i < n) (hx : l[o + i * 2]? = some (.int .i64 x)) (hy : l[o + i * 2 + 1]? = some (.int .i64 y)) (hn : n ≤ 60) :
    aden Φ8 b7_1 ⟨[(0, .int .i64 asks), (1, .int .i64 gives), (2, .sl 0 o n c), (3, .int .i64 ask), (4, .int .i64 give), (11, .bool true), (12, .int .i64 i)], H, []⟩ =
      if keepL x = true ∧ keepL y = true then some (.normal, ⟨[(0, .int .i64 asks), (1, .int .i64 gives), (2, .sl 0 o n c), (3, .int .i64 ask), (4, .int .i64 give), (11, .bool true), (12, .int .i64 (i + 1 : Nat))], H.push (.cells [.int .i64 x, .int .i64 y] 3 1 .fixed), []⟩)
      else some (.ret, ⟨[(10, .bool true)], H.push (.cells [.int .i64 x, .int .i64 y] 3 1 .fixed), []⟩) := by
  have hw : IntKind.i64.wrap ((i : Int) + 1) = ((i : Int) + 1) := by rw [IntKind.wrap_i64]; omega
  have h1 : (i : Int) < (n : Int) := by omega
  unfold b7_1
  simp (maxSteps := 10000000) +contextual [go_sem, hH, h0, h1, hi, hx, hy, hw, p8_24, r24, keeps_two]
  cases keepL x <;> cases keepL y <;> simp
def tmA (asks gives : Int) (o n : Nat) (c : Option Nat) (ask give : Int) : Tm := [(0, .int .i64 asks), (1, .int .i64 gives), (2, .sl 0 o n c), (3, .int .i64 ask), (4, .int .i64 give), (11, .bool true)]
theorem lastA1 {H : AHeap} {o n : Nat} {c : Option Nat} {asks gives ask give : Int} :
    aden Φ8 b7_1 ⟨[(0, .int .i64 asks), (1, .int .i64 gives), (2, .sl 0 o n c), (3, .int .i64 ask), (4, .int .i64 give), (11, .bool true), (12, .int .i64 n)], H, []⟩ = some (.exit 0, ⟨[(0, .int .i64 asks), (1, .int .i64 gives), (2, .sl 0 o n c), (3, .int .i64 ask), (4, .int .i64 give), (11, .bool true), (12, .int .i64 n), (49, .bool false)], H, []⟩) := by
  unfold b7_1
  simp (maxSteps := 10000000) +contextual [go_sem]
/-- The first loop: all ticks keep the bound, or the law is done. -/
theorem loopA1 {l : List AVal} {e : TypeId} {es : Nat} {m : Mode} {o n : Nat} {c : Option Nat} {asks gives ask give : Int} {xs : List Int} (hl : xs.length = n * 2) (hx : ∀ (i : Nat) (hi : i < xs.length), l[o + i]? = some (.int .i64 xs[i])) (hn : n ≤ 60) :
    ∀ (k i : Nat) (H : AHeap), i + k = n → H.get 0 = .cells l e es m → 0 < H.n → ∃ H', H'.get 0 = .cells l e es m ∧ 0 < H'.n ∧
      (iter (aden Φ8 b7_1) (k + 1) ⟨[(0, .int .i64 asks), (1, .int .i64 gives), (2, .sl 0 o n c), (3, .int .i64 ask), (4, .int .i64 give), (11, .bool true), (12, .int .i64 i)], H, []⟩ = some (.ret, ⟨[(10, .bool true)], H', []⟩) ∨
       ((∀ j (hj : j < xs.length), i * 2 ≤ j → keepL xs[j] = true) ∧ iter (aden Φ8 b7_1) (k + 1) ⟨[(0, .int .i64 asks), (1, .int .i64 gives), (2, .sl 0 o n c), (3, .int .i64 ask), (4, .int .i64 give), (11, .bool true), (12, .int .i64 i)], H, []⟩ = some (.exit 0, ⟨[(0, .int .i64 asks), (1, .int .i64 gives), (2, .sl 0 o n c), (3, .int .i64 ask), (4, .int .i64 give), (11, .bool true), (12, .int .i64 n), (49, .bool false)], H', []⟩))) := by
  intro k
  induction k with
  | zero =>
    intro i H hi hH h0
    have hi' : i = n := by omega
    subst hi'
    exact ⟨H, hH, h0, .inr ⟨fun j hj h => by omega, by rw [iter_succ, lastA1]; rfl⟩⟩
  | succ k ih =>
    intro i H hi hH h0
    have h1 : i * 2 < xs.length := by omega
    have h2 : i * 2 + 1 < xs.length := by omega
    have hs := stepA1 (c := c) (asks := asks) (gives := gives) (ask := ask) (give := give) hH h0 (show i < n by omega) (hx _ h1) (by rw [Nat.add_assoc]; exact hx _ h2) hn
    by_cases hk : keepL xs[i * 2] = true ∧ keepL xs[i * 2 + 1] = true
    · rw [if_pos hk] at hs
      obtain ⟨H', g1, g2, g3⟩ := ih (i + 1) (H.push (.cells [.int .i64 xs[i * 2], .int .i64 xs[i * 2 + 1]] 3 1 .fixed)) (by omega) (by rw [AHeap.get_push, if_neg (by omega)]; exact hH) (by simp)
      refine ⟨H', g1, g2, ?_⟩
      rw [iter_succ, hs, iterK_n]
      rcases g3 with g3 | ⟨g3, g4⟩
      · exact .inl g3
      · refine .inr ⟨fun j hj hij => ?_, g4⟩
        rcases Nat.lt_or_ge j ((i + 1) * 2) with h | h
        · rcases (show j = i * 2 ∨ j = i * 2 + 1 by omega) with rfl | rfl
          · exact hk.1
          · exact hk.2
        · exact g3 j hj h
    · rw [if_neg hk] at hs
      refine ⟨H.push (.cells [.int .i64 xs[i * 2], .int .i64 xs[i * 2 + 1]] 3 1 .fixed), by rw [AHeap.get_push, if_neg (by omega)]; exact hH, by simp, .inl ?_⟩
      rw [iter_succ, hs, iterK_r]
/-- What holds ahead of round i. -/
structure JA (i ask give asks gives stamp to fr : Int) : Prop where
  a : 0 ≤ asks ∧ asks ≤ 1073741824 + 110 * i
  g : 0 ≤ gives ∧ gives ≤ 1073741824 + 110 * i
  s0 : i ≤ ask → stamp = -1
  s1 : ask < i → 0 ≤ stamp ∧ stamp + 90 * (i - ask) ≤ asks
  p0 : i ≤ give → to = -1
  p1 : give < i → to = 1 ∧ 0 ≤ fr ∧ fr ≤ gives ∧ gives ≤ fr + 110 * (i - give)
theorem JA.holds {i ask give asks gives stamp to fr : Int} (h : JA i ask give asks gives stamp to fr) (h0 : 0 ≤ ask ∧ ask ≤ give) (hi : 0 ≤ i ∧ i ≤ 60) (hg : give ≤ i) (hv : validL (if i = ask then asks else stamp) asks = true) :
    holdsL (if i = give then 1 else to) (if i = give then gives else fr) gives = true := by
  obtain ⟨a, g, s0, s1, p0, p1⟩ := h
  simp only [validL, mayL, Bool.and_eq_true, decide_eq_true_eq] at hv
  simp only [holdsL, mayL, Bool.and_eq_true, Bool.or_eq_true, Bool.not_eq_true', Bool.and_eq_false_iff, decide_eq_true_eq, decide_eq_false_iff_not]
  by_cases e1 : i = ask
  · by_cases e2 : i = give
    · simp only [e1, e2, if_true] at hv ⊢
      omega
    · omega
  · rw [if_neg e1] at hv
    have := s1 (by omega)
    by_cases e2 : i = give
    · rw [if_pos e2, if_pos e2]; omega
    · rw [if_neg e2, if_neg e2]
      have := p1 (by omega)
      omega
theorem JA.next {i ask give asks gives stamp to fr x y : Int} (h : JA i ask give asks gives stamp to fr) (h0 : 0 ≤ ask ∧ ask ≤ give) (hi : 0 ≤ i) (hx : keepL x = true) (hy : keepL y = true) :
    JA (i + 1) ask give (asks + x) (gives + y) (if i = ask then asks else stamp) (if i = give then 1 else to) (if i = give then gives else fr) := by
  obtain ⟨a, g, s0, s1, p0, p1⟩ := h
  simp only [keepL, Bool.and_eq_true, decide_eq_true_eq] at hx hy
  refine ⟨by omega, by omega, fun h => ?_, fun h => ?_, fun h => ?_, fun h => ?_⟩
  · rw [if_neg (by omega)]; exact s0 (by omega)
  · by_cases e : i = ask
    · rw [if_pos e]; omega
    · rw [if_neg e]; have := s1 (by omega); omega
  · rw [if_neg (by omega)]; exact p0 (by omega)
  · by_cases e : i = give
    · rw [if_pos e, if_pos e]; omega
    · rw [if_neg e, if_neg e]; have := p1 (by omega); omega
theorem stepA2 {l : List AVal} {e : TypeId} {es : Nat} {m : Mode} {H : AHeap} {q : Nat} {to fr : Int} (hH : H.get 0 = .cells l e es m) (hQ : H.get q = .cells [.int .i64 to, .int .i64 fr] 23 2 .fixed) (hq : ¬ 0 = q) {o n i : Nat} {c : Option Nat} {asks gives ask give stamp x y : Int} (hi : i < n) (h0 : ask ≤ give) (hx : l[o + i * 2]? = some (.int .i64 x)) (hy : l[o + i * 2 + 1]? = some (.int .i64 y)) (hn : n ≤ 60)
    (hax : IntKind.i64.wrap (asks + x) = asks + x) (hgy : IntKind.i64.wrap (gives + y) = gives + y)
    (hok : give ≤ (i : Int) → validL (if (i : Int) = ask then asks else stamp) asks = true → holdsL (if (i : Int) = give then 1 else to) (if (i : Int) = give then gives else fr) gives = true) :
    ∃ H', H'.get 0 = .cells l e es m ∧ H'.n = H.n ∧ H'.get q = .cells [.int .i64 (if (i : Int) = give then 1 else to), .int .i64 (if (i : Int) = give then gives else fr)] 23 2 .fixed ∧
    aden Φ8 b7_0 ⟨[(0, .int .i64 asks), (1, .int .i64 gives), (2, .sl 0 o n c), (3, .int .i64 ask), (4, .int .i64 give), (11, .bool true), (13, .int .i64 stamp), (14, .ptr q 0), (15, .int .i64 i)], H, []⟩ = some (.normal, ⟨[(0, .int .i64 (asks + x)), (1, .int .i64 (gives + y)), (2, .sl 0 o n c), (3, .int .i64 ask), (4, .int .i64 give), (11, .bool true), (13, .int .i64 (if (i : Int) = ask then asks else stamp)), (14, .ptr q 0), (15, .int .i64 (i + 1 : Nat))], H', []⟩) := by
  have hw : IntKind.i64.wrap ((i : Int) + 1) = ((i : Int) + 1) := by rw [IntKind.wrap_i64]; omega
  have h1 : (i : Int) < (n : Int) := by omega
  have h2 : (i : Int) ≤ (n : Int) := by omega
  have hq' : ¬ q = 0 := fun h => hq h.symm
  by_cases e1 : (i : Int) = ask
  · by_cases e2 : (i : Int) = give
    · refine ⟨H.set q (.cells [.int .i64 1, .int .i64 gives] 23 2 .fixed), by rw [AHeap.get_set, if_neg hq]; exact hH, rfl, by rw [AHeap.get_set, if_pos rfl, if_pos e2, if_pos e2], ?_⟩
      rw [if_pos e1, if_pos e2, if_pos e2] at hok
      have hok := hok (by omega)
      unfold b7_0
      subst e1
      subst e2
      cases hv : validL asks asks with
      | false => simp (maxSteps := 10000000) +contextual [go_sem, hH, hQ, hq, hq', h1, h2, hi, hx, hy, hw, hax, hgy, hv, p8_15, p8_19, r15, r19]; try omega
      | true =>
        have hok := (by first | exact hok hv | exact hok (Int.le_refl _) hv)
        simp (maxSteps := 10000000) +contextual [go_sem, hH, hQ, hq, hq', h1, h2, hi, hx, hy, hw, hax, hgy, hv, hok, p8_15, p8_19, r15, r19]; try omega
    · have e3 : ¬ give ≤ (i : Int) := by omega
      refine ⟨H, hH, rfl, by rw [if_neg e2, if_neg e2]; exact hQ, ?_⟩
      unfold b7_0
      subst e1
      simp (maxSteps := 10000000) +contextual [go_sem, hH, hQ, hq, hq', h1, h2, hi, hx, hy, hw, hax, hgy, p8_15, p8_19, r15, r19, e2, e3]
  · by_cases e2 : (i : Int) = give
    · refine ⟨H.set q (.cells [.int .i64 1, .int .i64 gives] 23 2 .fixed), by rw [AHeap.get_set, if_neg hq]; exact hH, rfl, by rw [AHeap.get_set, if_pos rfl, if_pos e2, if_pos e2], ?_⟩
      rw [if_neg e1, if_pos e2, if_pos e2] at hok
      have hok := hok (by omega)
      unfold b7_0
      subst e2
      cases hv : validL stamp asks with
      | false => simp (maxSteps := 10000000) +contextual [go_sem, hH, hQ, hq, hq', h1, h2, hi, hx, hy, hw, hax, hgy, p8_15, p8_19, r15, r19, e1, hv]
      | true =>
        have hok := (by first | exact hok hv | exact hok (Int.le_refl _) hv)
        simp (maxSteps := 10000000) +contextual [go_sem, hH, hQ, hq, hq', h1, h2, hi, hx, hy, hw, hax, hgy, p8_15, p8_19, r15, r19, e1, hv, hok]
    · refine ⟨H, hH, rfl, by rw [if_neg e2, if_neg e2]; exact hQ, ?_⟩
      rw [if_neg e1, if_neg e2, if_neg e2] at hok
      unfold b7_0
      by_cases e3 : give ≤ (i : Int)
      · have hok := hok e3
        cases hv : validL stamp asks with
        | false => simp (maxSteps := 10000000) +contextual [go_sem, hH, hQ, hq, hq', h1, h2, hi, hx, hy, hw, hax, hgy, p8_15, p8_19, r15, r19, e1, e2, e3, hv]
        | true =>
          have hok := hok hv
          simp (maxSteps := 10000000) +contextual [go_sem, hH, hQ, hq, hq', h1, h2, hi, hx, hy, hw, hax, hgy, p8_15, p8_19, r15, r19, e1, e2, e3, hv, hok]
      · simp (maxSteps := 10000000) +contextual [go_sem, hH, hQ, hq, hq', h1, h2, hi, hx, hy, hw, hax, hgy, p8_15, p8_19, r15, r19, e1, e2, e3]
theorem stepA3 {l : List AVal} {e : TypeId} {es : Nat} {m : Mode} {H : AHeap} {q : Nat} {to fr : Int} (hH : H.get 0 = .cells l e es m) (hQ : H.get q = .cells [.int .i64 to, .int .i64 fr] 23 2 .fixed) (hq : ¬ 0 = q) {o n i : Nat} {c : Option Nat} {asks gives ask give stamp : Int} (hi : i = n) (h0 : ask ≤ give) (hn : n ≤ 60)
    (hok : give ≤ (i : Int) → validL (if (i : Int) = ask then asks else stamp) asks = true → holdsL (if (i : Int) = give then 1 else to) (if (i : Int) = give then gives else fr) gives = true) :
    ∃ H', H'.get 0 = .cells l e es m ∧ H'.n = H.n ∧ H'.get q = .cells [.int .i64 (if (i : Int) = give then 1 else to), .int .i64 (if (i : Int) = give then gives else fr)] 23 2 .fixed ∧
    aden Φ8 b7_0 ⟨[(0, .int .i64 asks), (1, .int .i64 gives), (2, .sl 0 o n c), (3, .int .i64 ask), (4, .int .i64 give), (11, .bool true), (13, .int .i64 stamp), (14, .ptr q 0), (15, .int .i64 i)], H, []⟩ = some (.normal, ⟨[(0, .int .i64 asks), (1, .int .i64 gives), (2, .sl 0 o n c), (3, .int .i64 ask), (4, .int .i64 give), (11, .bool true), (13, .int .i64 (if (i : Int) = ask then asks else stamp)), (14, .ptr q 0), (15, .int .i64 (i + 1 : Nat))], H', []⟩) := by
  have hw : IntKind.i64.wrap ((i : Int) + 1) = ((i : Int) + 1) := by rw [IntKind.wrap_i64]; omega
  have h1 : ¬ (i : Int) < (n : Int) := by omega
  have h2 : (i : Int) ≤ (n : Int) := by omega
  have hq' : ¬ q = 0 := fun h => hq h.symm
  by_cases e1 : (i : Int) = ask
  · by_cases e2 : (i : Int) = give
    · refine ⟨H.set q (.cells [.int .i64 1, .int .i64 gives] 23 2 .fixed), by rw [AHeap.get_set, if_neg hq]; exact hH, rfl, by rw [AHeap.get_set, if_pos rfl, if_pos e2, if_pos e2], ?_⟩
      rw [if_pos e1, if_pos e2, if_pos e2] at hok
      have hok := hok (by omega)
      unfold b7_0
      subst e1
      subst e2
      cases hv : validL asks asks with
      | false => simp (maxSteps := 10000000) +contextual [go_sem, hH, hQ, hq, hq', h1, h2, hw, hv, p8_15, p8_19, r15, r19]; try omega
      | true =>
        have hok := (by first | exact hok hv | exact hok (Int.le_refl _) hv)
        simp (maxSteps := 10000000) +contextual [go_sem, hH, hQ, hq, hq', h1, h2, hw, hv, hok, p8_15, p8_19, r15, r19]; try omega
    · have e3 : ¬ give ≤ (i : Int) := by omega
      refine ⟨H, hH, rfl, by rw [if_neg e2, if_neg e2]; exact hQ, ?_⟩
      unfold b7_0
      subst e1
      simp (maxSteps := 10000000) +contextual [go_sem, hH, hQ, hq, hq', h1, h2, hw, p8_15, p8_19, r15, r19, e2, e3]
  · by_cases e2 : (i : Int) = give
    · refine ⟨H.set q (.cells [.int .i64 1, .int .i64 gives] 23 2 .fixed), by rw [AHeap.get_set, if_neg hq]; exact hH, rfl, by rw [AHeap.get_set, if_pos rfl, if_pos e2, if_pos e2], ?_⟩
      rw [if_neg e1, if_pos e2, if_pos e2] at hok
      have hok := hok (by omega)
      unfold b7_0
      subst e2
      cases hv : validL stamp asks with
      | false => simp (maxSteps := 10000000) +contextual [go_sem, hH, hQ, hq, hq', h1, h2, hw, p8_15, p8_19, r15, r19, e1, hv]
      | true =>
        have hok := (by first | exact hok hv | exact hok (Int.le_refl _) hv)
        simp (maxSteps := 10000000) +contextual [go_sem, hH, hQ, hq, hq', h1, h2, hw, p8_15, p8_19, r15, r19, e1, hv, hok]
    · refine ⟨H, hH, rfl, by rw [if_neg e2, if_neg e2]; exact hQ, ?_⟩
      rw [if_neg e1, if_neg e2, if_neg e2] at hok
      unfold b7_0
      by_cases e3 : give ≤ (i : Int)
      · have hok := hok e3
        cases hv : validL stamp asks with
        | false => simp (maxSteps := 10000000) +contextual [go_sem, hH, hQ, hq, hq', h1, h2, hw, p8_15, p8_19, r15, r19, e1, e2, e3, hv]
        | true =>
          have hok := hok hv
          simp (maxSteps := 10000000) +contextual [go_sem, hH, hQ, hq, hq', h1, h2, hw, p8_15, p8_19, r15, r19, e1, e2, e3, hv, hok]
      · simp (maxSteps := 10000000) +contextual [go_sem, hH, hQ, hq, hq', h1, h2, hw, p8_15, p8_19, r15, r19, e1, e2, e3]
theorem lastA2 {H : AHeap} {q o n : Nat} {c : Option Nat} {asks gives ask give stamp : Int} :
    aden Φ8 b7_0 ⟨[(0, .int .i64 asks), (1, .int .i64 gives), (2, .sl 0 o n c), (3, .int .i64 ask), (4, .int .i64 give), (11, .bool true), (13, .int .i64 stamp), (14, .ptr q 0), (15, .int .i64 (n + 1 : Nat))], H, []⟩ = some (.exit 2, ⟨[(0, .int .i64 asks), (1, .int .i64 gives), (2, .sl 0 o n c), (3, .int .i64 ask), (4, .int .i64 give), (11, .bool true), (13, .int .i64 stamp), (14, .ptr q 0), (15, .int .i64 (n + 1 : Nat)), (70, .bool false)], H, []⟩) := by
  have h : ¬ ((n : Int) + 1 ≤ (n : Int)) := by omega
  unfold b7_0
  simp (maxSteps := 10000000) +contextual [go_sem, h]
theorem loopA2 {l : List AVal} {e : TypeId} {es : Nat} {m : Mode} {q o n : Nat} {c : Option Nat} {ask give : Int} {xs : List Int} (hl : xs.length = n * 2) (hx : ∀ (i : Nat) (hi : i < xs.length), l[o + i]? = some (.int .i64 xs[i])) (hk : ∀ (i : Nat) (hi : i < xs.length), keepL xs[i] = true) (hn : n ≤ 60) (hq : ¬ 0 = q) (h0 : 0 ≤ ask ∧ ask ≤ give) :
    ∀ (k i : Nat) (H : AHeap) (asks gives stamp to fr : Int), i + k = n → H.get 0 = .cells l e es m → H.get q = .cells [.int .i64 to, .int .i64 fr] 23 2 .fixed → JA i ask give asks gives stamp to fr →
      ∃ (H' : AHeap) (asks' gives' stamp' : Int), H'.get 0 = .cells l e es m ∧ iter (aden Φ8 b7_0) (k + 2) ⟨[(0, .int .i64 asks), (1, .int .i64 gives), (2, .sl 0 o n c), (3, .int .i64 ask), (4, .int .i64 give), (11, .bool true), (13, .int .i64 stamp), (14, .ptr q 0), (15, .int .i64 i)], H, []⟩ = some (.exit 2, ⟨[(0, .int .i64 asks'), (1, .int .i64 gives'), (2, .sl 0 o n c), (3, .int .i64 ask), (4, .int .i64 give), (11, .bool true), (13, .int .i64 stamp'), (14, .ptr q 0), (15, .int .i64 (n + 1 : Nat)), (70, .bool false)], H', []⟩) := by
  intro k
  induction k with
  | zero =>
    intro i H asks gives stamp to fr hi hH hQ hJ
    have hi' : i = n := by omega
    obtain ⟨H', g1, _, g2, g3⟩ := stepA3 (c := c) hH hQ hq hi' h0.2 hn (fun hg hv => hJ.holds h0 (by omega) hg hv)
    refine ⟨H', asks, gives, (if (i : Int) = ask then asks else stamp), g1, ?_⟩
    rw [iter_succ, g3, iterK_n, iter_succ, hi', lastA2, iterK_e]
  | succ k ih =>
    intro i H asks gives stamp to fr hi hH hQ hJ
    have h1 : i * 2 < xs.length := by omega
    have h2 : i * 2 + 1 < xs.length := by omega
    have ha := hJ.a
    have hg := hJ.g
    have k1 := hk _ h1
    have k2 := hk _ h2
    have b1 := k1
    have b2 := k2
    simp only [keepL, Bool.and_eq_true, decide_eq_true_eq] at b1 b2
    obtain ⟨H', g1, _, g2, g3⟩ := stepA2 (c := c) hH hQ hq (show i < n by omega) h0.2 (hx _ h1) (by rw [Nat.add_assoc]; exact hx _ h2) hn (by rw [IntKind.wrap_i64]; omega) (by rw [IntKind.wrap_i64]; omega) (fun hg hv => hJ.holds h0 (by omega) hg hv)
    have hJ' := hJ.next h0 (by omega) k1 k2
    obtain ⟨H2, a2, b2, c2, g4, g5⟩ := ih (i + 1) H' _ _ _ _ _ (by omega) g1 g2 (by simpa using hJ')
    refine ⟨H2, a2, b2, c2, g4, ?_⟩
    rw [iter_succ, g3, iterK_n]
    exact g5
def r7 : List AVal → AHeap → Option AVal
  | [.int .i64 _, .int .i64 _, v, .int .i64 _, .int .i64 _], H => (sliceIntsK H 2 v).map fun _ => .bool true
  | _, _ => none
theorem nilA1 {H : AHeap} {asks gives ask give : Int} :
    iter (aden Φ8 b7_1) 1 ⟨[(0, .int .i64 asks), (1, .int .i64 gives), (2, .nils), (3, .int .i64 ask), (4, .int .i64 give), (11, .bool true), (12, .int .i64 0)], H, []⟩ = some (.exit 0, ⟨[(0, .int .i64 asks), (1, .int .i64 gives), (2, .nils), (3, .int .i64 ask), (4, .int .i64 give), (11, .bool true), (12, .int .i64 0), (49, .bool false)], H, []⟩) := by
  rw [show (1 : Nat) = 0 + 1 from rfl, iter_succ]
  unfold b7_1
  simp (maxSteps := 10000000) +contextual [go_sem]
theorem nilA2 {H : AHeap} {q : Nat} (hQ : H.get q = .cells [.int .i64 (-1), .int .i64 0] 23 2 .fixed) {asks gives ask give : Int} (ha : 0 ≤ asks ∧ asks ≤ 1073741824) (hg : 0 ≤ gives ∧ gives ≤ 1073741824) (h0 : 0 ≤ ask ∧ ask ≤ give) :
    ∃ (H' : AHeap) (stamp : Int), aden Φ8 b7_0 ⟨[(0, .int .i64 asks), (1, .int .i64 gives), (2, .nils), (3, .int .i64 ask), (4, .int .i64 give), (11, .bool true), (13, .int .i64 (-1)), (14, .ptr q 0), (15, .int .i64 0)], H, []⟩ = some (.normal, ⟨[(0, .int .i64 asks), (1, .int .i64 gives), (2, .nils), (3, .int .i64 ask), (4, .int .i64 give), (11, .bool true), (13, .int .i64 stamp), (14, .ptr q 0), (15, .int .i64 1)], H', []⟩) := by
  have hw : IntKind.i64.wrap ((0 : Int) + 1) = 1 := by rw [IntKind.wrap_i64]; omega
  have hw' : IntKind.i64.wrap 1 = 1 := by rw [IntKind.wrap_i64]; omega
  by_cases e1 : ask = 0
  · subst e1
    by_cases e2 : give = 0
    · subst e2
      have hok : holdsL 1 gives gives = true := by
        simp only [holdsL, mayL, Bool.and_eq_true, Bool.or_eq_true, Bool.not_eq_true', Bool.and_eq_false_iff, decide_eq_true_eq, decide_eq_false_iff_not]; omega
      refine ⟨H.set q (.cells [.int .i64 1, .int .i64 gives] 23 2 .fixed), asks, ?_⟩
      unfold b7_0
      cases hv : validL asks asks with
      | false => simp (maxSteps := 10000000) +contextual [go_sem, hQ, hw, hw', hv, p8_15, p8_19, r15, r19]
      | true => simp (maxSteps := 10000000) +contextual [go_sem, hQ, hw, hw', hv, hok, p8_15, p8_19, r15, r19]
    · have e3 : ¬ give ≤ 0 := by omega
      have e4 : ¬ 0 = give := by omega
      refine ⟨H, asks, ?_⟩
      unfold b7_0
      simp (maxSteps := 10000000) +contextual [go_sem, hQ, hw, hw', p8_15, p8_19, r15, r19, e2, e3, e4]
  · have e1' : ¬ 0 = ask := by omega
    have e3 : ¬ give ≤ 0 := by omega
    have e4 : ¬ 0 = give := by omega
    have e2 : ¬ give = 0 := by omega
    refine ⟨H, -1, ?_⟩
    unfold b7_0
    simp (maxSteps := 10000000) +contextual [go_sem, hQ, hw, hw', p8_15, p8_19, r15, r19, e1, e1', e2, e3, e4]
theorem iter_nx {f : ASt → Option (AEx × ASt)} {s s' s2 : ASt} {id : Nat} (h : f s = some (.normal, s')) (h2 : f s' = some (.exit id, s2)) : iter f 2 s = some (.exit id, s2) := by
  rw [show (2 : Nat) = 0 + 1 + 1 from rfl, iter_succ, h, iterK_n, iter_succ, h2, iterK_e]
theorem nilA3 {H : AHeap} {q : Nat} {asks gives ask give stamp : Int} :
    aden Φ8 b7_0 ⟨[(0, .int .i64 asks), (1, .int .i64 gives), (2, .nils), (3, .int .i64 ask), (4, .int .i64 give), (11, .bool true), (13, .int .i64 stamp), (14, .ptr q 0), (15, .int .i64 1)], H, []⟩ = some (.exit 2, ⟨[(0, .int .i64 asks), (1, .int .i64 gives), (2, .nils), (3, .int .i64 ask), (4, .int .i64 give), (11, .bool true), (13, .int .i64 stamp), (14, .ptr q 0), (15, .int .i64 1), (70, .bool false)], H, []⟩) := by
  unfold b7_0
  simp (maxSteps := 10000000) +contextual [go_sem]
theorem s7 : Sound Try.prog 7 (rspec r7) := by
  refine (fun_sound ok8 none_soundD mixed Try.func7 cal7 comp7).rspec (φ := denF Φ8 none2 c7) fun args H v h => ?_
  unfold r7 at h
  split at h
  · rename_i asks gives u ask give
    simp only [Option.map_eq_some_iff] at h
    obtain ⟨xs, hxs, rfl⟩ := h
    refine ⟨rfl, ?_⟩
    unfold sliceIntsK at hxs
    split at hxs
    · suffices hgoal : ∃ H', denF Φ8 none2 c7 [.int .i64 asks, .int .i64 gives, .nils, .int .i64 ask, .int .i64 give] (sub H []) = some (.bool true, H') by
        obtain ⟨H', h1⟩ := hgoal
        exact ⟨[], _, H', List.nodup_nil, by simp, by simp [rens, ren, AVal.scal], h1, fun i hi => by simp at hi⟩
      unfold c7
      by_cases a1 : asks < 0
      · refine ⟨sub H [], ?_⟩
        simp (maxSteps := 10000000) +contextual [go_sem, p8_6, r6, a1]
      by_cases a2 : 1073741824 < asks
      · refine ⟨sub H [], ?_⟩
        simp (maxSteps := 10000000) +contextual [go_sem, p8_6, r6, a1, a2]
      by_cases a3 : gives < 0
      · refine ⟨sub H [], ?_⟩
        simp (maxSteps := 10000000) +contextual [go_sem, p8_6, r6, a1, a2, a3]
      by_cases a4 : 1073741824 < gives
      · refine ⟨sub H [], ?_⟩
        simp (maxSteps := 10000000) +contextual [go_sem, p8_6, r6, a1, a2, a3, a4]
      by_cases a5 : ask < 0
      · refine ⟨sub H [], ?_⟩
        simp (maxSteps := 10000000) +contextual [go_sem, p8_6, r6, a1, a2, a3, a4, a5]
      by_cases a6 : give < ask
      · refine ⟨sub H [], ?_⟩
        simp (maxSteps := 10000000) +contextual [go_sem, p8_6, r6, a1, a2, a3, a4, a5, a6]
      have g4 := iter_mono (nilA1 (H := sub H []) (asks := asks) (gives := gives) (ask := ask) (give := give)) (show 1 ≤ fuel by unfold fuel; omega)
      obtain ⟨H2, st, g5⟩ := nilA2 (q := (sub H []).n) (H := ((sub H []).push (.cells [.int .i64 0, .int .i64 0] 23 2 .fixed)).set (sub H []).n (.cells [.int .i64 (-1), .int .i64 0] 23 2 .fixed)) (by rw [AHeap.get_set, if_pos rfl]) (asks := asks) (gives := gives) (ask := ask) (give := give) (by omega) (by omega) (by omega)
      have g6 := iter_mono (iter_nx g5 nilA3) (show 2 ≤ fuel by unfold fuel; omega)
      refine ⟨H2, ?_⟩
      simp (maxSteps := 10000000) +contextual [go_sem, p8_6, r6, a1, a2, a3, a4, a5, a6, g4, g6]
    · rename_i b o n c
      split at hxs
      · rename_i l e es m hb
        split at hxs
        · rename_i hle
          have hg : (sub H [b]).get 0 = .cells l e es m := by rw [sub_get]; exact hb
          have hgn : 0 < (sub H [b]).n := by simp [sub_n]
          have hnd : [b].Nodup := by simp
          have hsb : ∀ b' ∈ [b], scalBlk (H.get b') = true := by simp [hb, scalBlk, hle.2.2]
          have hrn : rens [b] [.int .i64 asks, .int .i64 gives, .sl b o n c, .int .i64 ask, .int .i64 give] = some [.int .i64 asks, .int .i64 gives, .sl 0 o n c, .int .i64 ask, .int .i64 give] := by simp [rens, ren, AVal.scal]
          obtain ⟨hlen, hx⟩ := slice_at hle.1 hxs
          suffices hgoal : ∃ H', denF Φ8 none2 c7 [.int .i64 asks, .int .i64 gives, .sl 0 o n c, .int .i64 ask, .int .i64 give] (sub H [b]) = some (.bool true, H') ∧ H'.get 0 = .cells l e es m by
            obtain ⟨H', h1, h2⟩ := hgoal
            refine ⟨[b], _, H', hnd, hsb, hrn, h1, fun i hi => ?_⟩
            simp only [List.length_cons, List.length_nil, Nat.zero_add] at hi
            have : i = 0 := by omega
            subst this
            rw [h2, hg]
          unfold c7
          by_cases a0 : (60 : Int) < (n : Int)
          · refine ⟨sub H [b], ?_, hg⟩
            simp (maxSteps := 10000000) +contextual [go_sem, p8_6, r6, a0]
          by_cases a1 : asks < 0
          · refine ⟨sub H [b], ?_, hg⟩
            simp (maxSteps := 10000000) +contextual [go_sem, p8_6, r6, a0, a1]
          by_cases a2 : 1073741824 < asks
          · refine ⟨sub H [b], ?_, hg⟩
            simp (maxSteps := 10000000) +contextual [go_sem, p8_6, r6, a0, a1, a2]
          by_cases a3 : gives < 0
          · refine ⟨sub H [b], ?_, hg⟩
            simp (maxSteps := 10000000) +contextual [go_sem, p8_6, r6, a0, a1, a2, a3]
          by_cases a4 : 1073741824 < gives
          · refine ⟨sub H [b], ?_, hg⟩
            simp (maxSteps := 10000000) +contextual [go_sem, p8_6, r6, a0, a1, a2, a3, a4]
          by_cases a5 : ask < 0
          · refine ⟨sub H [b], ?_, hg⟩
            simp (maxSteps := 10000000) +contextual [go_sem, p8_6, r6, a0, a1, a2, a3, a4, a5]
          by_cases a6 : give < ask
          · refine ⟨sub H [b], ?_, hg⟩
            simp (maxSteps := 10000000) +contextual [go_sem, p8_6, r6, a0, a1, a2, a3, a4, a5, a6]
          obtain ⟨H1, g1, g2, g3⟩ := loopA1 (c := c) (asks := asks) (gives := gives) (ask := ask) (give := give) hlen hx (show n ≤ 60 by omega) n 0 (sub H [b]) (by omega) hg hgn
          rw [show ((0 : Nat) : Int) = 0 from rfl] at g3
          rcases g3 with g3 | ⟨g3, g4⟩
          · have g3 := iter_mono g3 (show n + 1 ≤ fuel by unfold fuel; omega)
            refine ⟨H1, ?_, g1⟩
            simp (maxSteps := 10000000) +contextual [go_sem, p8_6, r6, a0, a1, a2, a3, a4, a5, a6, g3]
          · have g4 := iter_mono g4 (show n + 1 ≤ fuel by unfold fuel; omega)
            have hq : ¬ 0 = H1.n := by omega
            obtain ⟨H2, a', b', c', g5, g6⟩ := loopA2 (c := c) (q := H1.n) hlen hx (fun i hi => g3 i hi (by omega)) (show n ≤ 60 by omega) hq (show 0 ≤ ask ∧ ask ≤ give by omega) n 0 ((H1.push (.cells [.int .i64 0, .int .i64 0] 23 2 .fixed)).set H1.n (.cells [.int .i64 (-1), .int .i64 0] 23 2 .fixed)) asks gives (-1) (-1) 0 (by omega) (by rw [AHeap.get_set, if_neg hq, AHeap.get_push, if_neg hq]; exact g1) (by rw [AHeap.get_set, if_pos rfl]) ⟨by omega, by omega, fun _ => rfl, fun h => by omega, fun _ => rfl, fun h => by omega⟩
            rw [show ((0 : Nat) : Int) = 0 from rfl] at g6
            have g6 := iter_mono g6 (show n + 2 ≤ fuel by unfold fuel; omega)
            refine ⟨H2, ?_, g5⟩
            simp (maxSteps := 10000000) +contextual [go_sem, p8_6, r6, a0, a1, a2, a3, a4, a5, a6, g4, g6]
        · simp at hxs
      · simp at hxs
    · simp at hxs
  · simp at h
end Go.Eng.SeatA

/- Layer 16: whether clocks keep the bound. -/
import Derived.Test.YtakblaaipaehjaaSaL
import Derived.Test.YtakblaaipaehjaaEngInts
set_option linter.unusedSimpArgs false
set_option linter.unusedVariables false
set_option maxHeartbeats 40000000
namespace Go.Eng.SeatA
open Go.Proofs
def keepL (x : Int) : Bool := decide (90 ≤ x) && decide (x ≤ 110)
def r24 : List AVal → AHeap → Option AVal
  | [v], H => (sliceInts H v).map fun xs => .bool (xs.all keepL)
  | _, _ => none

theorem step25 {l : List AVal} {e : TypeId} {es : Nat} {m : Mode} {H : AHeap} (hH : H.get 0 = .cells l e es m) {o n i : Nat} {c : Option Nat} {x : Int} (hi : i < n) (hx : l[o + i]? = some (.int .i64 x)) (hn : n ≤ 9223372036854775807) :
    aden none2 b25_0 ⟨[(0, .sl 0 o n c), (3, .int .i64 i)], H, []⟩ = if keepL x = true then some (.normal, ⟨[(0, .sl 0 o n c), (3, .int .i64 (i + 1 : Nat))], H, []⟩) else some (.ret, ⟨[(2, .bool false)], H, []⟩) := by
  have hw : IntKind.i64.wrap ((i : Int) + 1) = ((i : Int) + 1) := by rw [IntKind.wrap_i64]; omega
  have h1 : (i : Int) < (n : Int) := by omega
  unfold b25_0
  simp (maxSteps := 10000000) +contextual [go_sem, hH, h1, hi, hx, hw, keepL]
  repeat' split
  all_goals first | rfl | omega
theorem last25 {H : AHeap} {o n : Nat} {c : Option Nat} : aden none2 b25_0 ⟨[(0, .sl 0 o n c), (3, .int .i64 n)], H, []⟩ = some (.exit 0, ⟨[(0, .sl 0 o n c), (3, .int .i64 n), (7, .bool false)], H, []⟩) := by
  unfold b25_0
  simp (maxSteps := 10000000) +contextual [go_sem]
theorem loop25 {l : List AVal} {e : TypeId} {es : Nat} {m : Mode} {H : AHeap} (hH : H.get 0 = .cells l e es m) {xs : List Int} {o : Nat} {c : Option Nat} (hx : ∀ (i : Nat) (hi : i < xs.length), l[o + i]? = some (.int .i64 xs[i])) (hn : xs.length ≤ 9223372036854775807) :
    ∀ (k i : Nat), i + k = xs.length → iter (aden none2 b25_0) (k + 1) ⟨[(0, .sl 0 o xs.length c), (3, .int .i64 i)], H, []⟩ =
      if (xs.drop i).all keepL = true then some (.exit 0, ⟨[(0, .sl 0 o xs.length c), (3, .int .i64 xs.length), (7, .bool false)], H, []⟩) else some (.ret, ⟨[(2, .bool false)], H, []⟩) := by
  intro k
  induction k with
  | zero =>
    intro i hi
    have hd : xs.drop i = [] := List.drop_eq_nil_of_le (by omega)
    have hi' : i = xs.length := by omega
    subst hi'
    rw [iter_succ, hd, last25]
    rfl
  | succ k ih =>
    intro i hi
    have hlt : i < xs.length := by omega
    rw [iter_succ, step25 hH hlt (hx i hlt) hn, iterK_ite, iterK_n, iterK_r, ih (i + 1) (by omega), List.drop_eq_getElem_cons hlt, List.all_cons]
    cases keepL xs[i] <;> simp
theorem nil25 {H : AHeap} : iter (aden none2 b25_0) (0 + 1) ⟨[(0, .nils), (3, .int .i64 0)], H, []⟩ = some (.exit 0, ⟨[(0, .nils), (3, .int .i64 0), (7, .bool false)], H, []⟩) := by
  rw [iter_succ]
  unfold b25_0
  simp (maxSteps := 10000000) +contextual [go_sem]
theorem s25 : Sound Try.prog 25 (rspec r24) := by
  refine (fun_sound none_sound none_soundD mixed Try.func25 cal25 comp25).rspec (φ := denF none2 none2 c25) fun args H v h => ?_
  unfold r24 at h
  split at h
  · rename_i u
    simp only [Option.map_eq_some_iff] at h
    obtain ⟨xs, hxs, rfl⟩ := h
    refine ⟨rfl, ?_⟩
    unfold sliceInts at hxs
    split at hxs
    · simp only [Option.some.injEq] at hxs; subst hxs
      refine ⟨[], [.nils], sub H [], List.nodup_nil, by simp, rfl, ?_, fun i hi => by simp at hi⟩
      have hl := iter_mono (nil25 (H := sub H [])) (show 0 + 1 ≤ fuel by unfold fuel; omega)
      unfold c25
      simp (maxSteps := 10000000) +contextual [go_sem, hl]
    · rename_i b o n c
      split at hxs
      · rename_i l e es m hb
        split at hxs
        · rename_i hle
          obtain ⟨hlen, hx⟩ := slice_at hle.1 hxs
          subst hlen
          have hg : (sub H [b]).get 0 = .cells l e es m := by rw [sub_get]; exact hb
          refine ⟨[b], [.sl 0 o xs.length c], sub H [b], by simp, by simp [hb, scalBlk, hle.2.2], by simp [rens, ren], ?_, fun i hi => rfl⟩
          have hl := loop25 hg (c := c) hx hle.2.1 xs.length 0 (by omega)
          simp only [List.drop_zero] at hl
          rw [show ((0 : Nat) : Int) = 0 from rfl] at hl
          have hfu : xs.length + 1 ≤ fuel := by unfold fuel; omega
          unfold c25
          cases hk : xs.all keepL with
          | true =>
            rw [hk, if_pos rfl] at hl
            have hl := iter_mono hl hfu
            simp (maxSteps := 10000000) +contextual [go_sem, hl]
          | false =>
            rw [hk, if_neg (by simp)] at hl
            have hl := iter_mono hl hfu
            simp (maxSteps := 10000000) +contextual [go_sem, hl]
        · simp at hxs
      · simp at hxs
    · simp at hxs
  · simp at h
theorem step24 {l : List AVal} {e : TypeId} {es : Nat} {m : Mode} {H : AHeap} (hH : H.get 0 = .cells l e es m) (hB : H.get 1 = .cells [.int .i64 90, .int .i64 110] 74 2 .fixed) {o n i : Nat} {c : Option Nat} {x : Int} (hi : i < n) (hx : l[o + i]? = some (.int .i64 x)) (hn : n ≤ 9223372036854775807) :
    aden Φ1 b24_0 ⟨[(3, .ptr 1 0), (7, .sl 0 o n c), (8, .int .i64 n), (9, .int .i64 i)], H, []⟩ = if keepL x = true then some (.normal, ⟨[(3, .ptr 1 0), (7, .sl 0 o n c), (8, .int .i64 n), (9, .int .i64 (i + 1 : Nat))], H, []⟩) else some (.ret, ⟨[(2, .bool false)], H, []⟩) := by
  have hw : IntKind.i64.wrap ((i : Int) + 1) = ((i : Int) + 1) := by rw [IntKind.wrap_i64]; omega
  have h1 : (i : Int) < (n : Int) := by omega
  unfold b24_0
  simp (maxSteps := 10000000) +contextual [go_sem, hH, hB, h1, hi, hx, hw, keepL]
  repeat' split
  all_goals first | rfl | omega
theorem last24 {H : AHeap} {o n : Nat} {c : Option Nat} : aden Φ1 b24_0 ⟨[(3, .ptr 1 0), (7, .sl 0 o n c), (8, .int .i64 n), (9, .int .i64 n)], H, []⟩ = some (.exit 0, ⟨[(3, .ptr 1 0), (7, .sl 0 o n c), (8, .int .i64 n), (9, .int .i64 n), (10, .bool false)], H, []⟩) := by
  unfold b24_0
  simp (maxSteps := 10000000) +contextual [go_sem]
theorem loop24 {l : List AVal} {e : TypeId} {es : Nat} {m : Mode} {H : AHeap} (hH : H.get 0 = .cells l e es m) (hB : H.get 1 = .cells [.int .i64 90, .int .i64 110] 74 2 .fixed) {xs : List Int} {o : Nat} {c : Option Nat} (hx : ∀ (i : Nat) (hi : i < xs.length), l[o + i]? = some (.int .i64 xs[i])) (hn : xs.length ≤ 9223372036854775807) :
    ∀ (k i : Nat), i + k = xs.length → iter (aden Φ1 b24_0) (k + 1) ⟨[(3, .ptr 1 0), (7, .sl 0 o xs.length c), (8, .int .i64 xs.length), (9, .int .i64 i)], H, []⟩ =
      if (xs.drop i).all keepL = true then some (.exit 0, ⟨[(3, .ptr 1 0), (7, .sl 0 o xs.length c), (8, .int .i64 xs.length), (9, .int .i64 xs.length), (10, .bool false)], H, []⟩) else some (.ret, ⟨[(2, .bool false)], H, []⟩) := by
  intro k
  induction k with
  | zero =>
    intro i hi
    have hd : xs.drop i = [] := List.drop_eq_nil_of_le (by omega)
    have hi' : i = xs.length := by omega
    subst hi'
    rw [iter_succ, hd, last24]
    rfl
  | succ k ih =>
    intro i hi
    have hlt : i < xs.length := by omega
    rw [iter_succ, step24 hH hB hlt (hx i hlt) hn, iterK_ite, iterK_n, iterK_r, ih (i + 1) (by omega), List.drop_eq_getElem_cons hlt, List.all_cons]
    cases keepL xs[i] <;> simp
theorem nil24 {H : AHeap} : iter (aden Φ1 b24_0) (0 + 1) ⟨[(3, .ptr 0 0), (7, .nils), (8, .int .i64 0), (9, .int .i64 0)], H, []⟩ = some (.exit 0, ⟨[(3, .ptr 0 0), (7, .nils), (8, .int .i64 0), (9, .int .i64 0), (10, .bool false)], H, []⟩) := by
  rw [iter_succ]
  unfold b24_0
  simp (maxSteps := 10000000) +contextual [go_sem]
theorem s24 : Sound Try.prog 24 (rspec r24) := by
  refine (fun_sound ok1 none_soundD mixed Try.func24 cal24 comp24).rspec (φ := denF Φ1 none2 c24) fun args H v h => ?_
  unfold r24 at h
  split at h
  · rename_i u
    simp only [Option.map_eq_some_iff] at h
    obtain ⟨xs, hxs, rfl⟩ := h
    refine ⟨rfl, ?_⟩
    unfold sliceInts at hxs
    split at hxs
    · simp only [Option.some.injEq] at hxs; subst hxs
      have hgn : (sub H []).n = 0 := rfl
      refine ⟨[], [.nils], ((sub H []).push (.cells [.int .i64 0, .int .i64 0] 74 2 .fixed)).set 0 (.cells [.int .i64 90, .int .i64 110] 74 2 .fixed), List.nodup_nil, by simp, rfl, ?_, fun i hi => by simp at hi⟩
      have hl := iter_mono (nil24 (H := ((sub H []).push (.cells [.int .i64 0, .int .i64 0] 74 2 .fixed)).set 0 (.cells [.int .i64 90, .int .i64 110] 74 2 .fixed))) (show 0 + 1 ≤ fuel by unfold fuel; omega)
      unfold c24
      unfold Φ1 at hl
      simp (maxSteps := 10000000) +contextual [go_sem, hl, Φ1, r43, hgn]
    · rename_i b o n c
      split at hxs
      · rename_i l e es m hb
        split at hxs
        · rename_i hle
          obtain ⟨hlen, hx⟩ := slice_at hle.1 hxs
          subst hlen
          have hg : (sub H [b]).get 0 = .cells l e es m := by rw [sub_get]; exact hb
          have hgn : (sub H [b]).n = 1 := rfl
          have hfu : xs.length + 1 ≤ fuel := by unfold fuel; omega
          refine ⟨[b], [.sl 0 o xs.length c], ((sub H [b]).push (.cells [.int .i64 0, .int .i64 0] 74 2 .fixed)).set 1 (.cells [.int .i64 90, .int .i64 110] 74 2 .fixed), by simp, by simp [hb, scalBlk, hle.2.2], by simp [rens, ren], ?_, fun i hi => by
            simp only [List.length_cons, List.length_nil, Nat.zero_add] at hi
            rw [AHeap.get_set, if_neg (by omega), AHeap.get_push, if_neg (by omega)]⟩
          have hl := loop24 (H := ((sub H [b]).push (.cells [.int .i64 0, .int .i64 0] 74 2 .fixed)).set 1 (.cells [.int .i64 90, .int .i64 110] 74 2 .fixed)) (by rw [AHeap.get_set, if_neg (by omega), AHeap.get_push, if_neg (by omega)]; exact hg) (by rw [AHeap.get_set, if_pos rfl]) (c := c) hx hle.2.1 xs.length 0 (by omega)
          simp only [List.drop_zero] at hl
          rw [show ((0 : Nat) : Int) = 0 from rfl] at hl
          unfold c24
          cases hk : xs.all keepL with
          | true =>
            rw [hk, if_pos rfl] at hl
            have hl := iter_mono hl hfu
            unfold Φ1 at hl
            simp (maxSteps := 10000000) +contextual [go_sem, hl, Φ1, r43, hgn]
          | false =>
            rw [hk, if_neg (by simp)] at hl
            have hl := iter_mono hl hfu
            unfold Φ1 at hl
            simp (maxSteps := 10000000) +contextual [go_sem, hl, Φ1, r43, hgn]
        · simp at hxs
      · simp at hxs
    · simp at hxs
  · simp at h
end Go.Eng.SeatA

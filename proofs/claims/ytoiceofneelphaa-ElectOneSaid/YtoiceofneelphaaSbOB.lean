/- Layer 19: ElectOne, its loops. -/
import Derived.Test.YtoiceofneelphaaSbOA
set_option linter.unusedSimpArgs false
set_option linter.unusedVariables false
set_option maxHeartbeats 40000000
namespace Go.Eng.SeatB
open Go.Proofs
/-- The heap with a message's own block. -/
def pm (H : AHeap) (m : Msg) : AHeap := (H.push (.cells [.int .i64 0, .int .i64 0, .int .i64 0, .int .i64 0, .int .i64 0, .int .i64 0, .bool false, .int .i64 0, .int .i64 0, .int .i64 0, .int .u64 0, .nils] 39 12 .fixed)).set H.n (.cells m.cs 39 12 .fixed)
theorem pm_n (H : AHeap) (m : Msg) : (pm H m).n = H.n + 1 := by simp [pm]
theorem pm_lt {H : AHeap} {m : Msg} {z : Nat} (h : z < H.n) : (pm H m).get z = H.get z := by
  unfold pm; rw [AHeap.get_set, if_neg (by omega), AHeap.get_push, if_neg (by omega)]
theorem pm_self (H : AHeap) (m : Msg) : (pm H m).get H.n = .cells m.cs 39 12 .fixed := by
  unfold pm; rw [AHeap.get_set, if_pos rfl]
theorem step41 {H : AHeap} {b o n i : Nat} {c : Option Nat} {f : Nat → Msg} {node term now : Int} (hM : Msgs H b o n f) (hb : b < H.n) (hi : i < n) (hn : n ≤ 60) :
    aden none2 b41_0 ⟨[(0, .sl b o n c), (1, .int .i64 node), (2, .int .i64 term), (3, .int .i64 now), (9, .int .i64 i)], H, []⟩ = if laterm node term now (f i) = true then some (.ret, ⟨[(8, .bool true)], pm H (f i), []⟩) else some (.normal, ⟨[(0, .sl b o n c), (1, .int .i64 node), (2, .int .i64 term), (3, .int .i64 now), (9, .int .i64 (i + 1 : Nat))], pm H (f i), []⟩) := by
  obtain ⟨L, e, es, md, hg, hl, hf⟩ := hM
  have hx := hf i hi
  have hle : o + i * 12 + 12 ≤ L.length := by omega
  have hw : IntKind.i64.wrap ((i : Int) + 1) = ((i : Int) + 1) := by rw [IntKind.wrap_i64]; omega
  have h1 : (i : Int) < (n : Int) := by omega
  unfold b41_0 pm
  unfold Msg.cs at hx ⊢
  by_cases e1 : (f i).ok = true
  case neg => simp (maxSteps := 10000000) +contextual [go_sem, hg, hi, h1, hx, hle, hw, laterm, e1]
  by_cases e2 : (f i).kind = 4
  case neg => simp (maxSteps := 10000000) +contextual [go_sem, hg, hi, h1, hx, hle, hw, laterm, e1, e2]
  by_cases e3 : 0 ≤ (f i).fr
  case neg => simp (maxSteps := 10000000) +contextual [go_sem, hg, hi, h1, hx, hle, hw, laterm, fromL, e1, e2, e3]
  by_cases e4 : (f i).fr ≤ 2
  case neg => have e4' : ¬ (f i).fr < 3 := by omega
              simp (maxSteps := 10000000) +contextual [go_sem, hg, hi, h1, hx, hle, hw, laterm, fromL, e1, e2, e3, e4, e4']
  have e4' : (f i).fr < 3 := by omega
  by_cases e5 : (f i).fr = node
  · subst e5
    simp (maxSteps := 10000000) +contextual [go_sem, hg, hi, h1, hx, hle, hw, laterm, fromL, e1, e2, e3, e4, e4']
  by_cases e6 : (f i).term = term
  case neg => simp (maxSteps := 10000000) +contextual [go_sem, hg, hi, h1, hx, hle, hw, laterm, fromL, e1, e2, e3, e4, e4', e5, e6]
  by_cases e7 : now < (f i).stamp
  · simp (maxSteps := 10000000) +contextual [go_sem, hg, hi, h1, hx, hle, hw, laterm, fromL, e1, e2, e3, e4, e4', e5, e6, e7]
  · simp (maxSteps := 10000000) +contextual [go_sem, hg, hi, h1, hx, hle, hw, laterm, fromL, e1, e2, e3, e4, e4', e5, e6, e7]
theorem last41 {H : AHeap} {b o n : Nat} {c : Option Nat} {node term now : Int} :
    aden none2 b41_0 ⟨[(0, .sl b o n c), (1, .int .i64 node), (2, .int .i64 term), (3, .int .i64 now), (9, .int .i64 n)], H, []⟩ = some (.exit 0, ⟨[(0, .sl b o n c), (1, .int .i64 node), (2, .int .i64 term), (3, .int .i64 now), (9, .int .i64 n), (14, .bool false)], H, []⟩) := by
  unfold b41_0
  simp (maxSteps := 10000000) +contextual [go_sem]
/-- Whether a later one is among those from i on. -/
def anyL (node term now : Int) (f : Nat → Msg) : Nat → Nat → Bool
  | _, 0 => false
  | i, k + 1 => laterm node term now (f i) || anyL node term now f (i + 1) k
theorem loop41 {b o n : Nat} {c : Option Nat} {f : Nat → Msg} {node term now : Int} (hn : n ≤ 60) : ∀ (k i : Nat), i + k = n → ∀ {H : AHeap}, Msgs H b o n f → b < H.n → ∃ H', H.n ≤ H'.n ∧ (∀ z, z < H.n → H'.get z = H.get z) ∧
    iter (aden none2 b41_0) (k + 1) ⟨[(0, .sl b o n c), (1, .int .i64 node), (2, .int .i64 term), (3, .int .i64 now), (9, .int .i64 i)], H, []⟩ = if anyL node term now f i k = true then some (.ret, ⟨[(8, .bool true)], H', []⟩) else some (.exit 0, ⟨[(0, .sl b o n c), (1, .int .i64 node), (2, .int .i64 term), (3, .int .i64 now), (9, .int .i64 n), (14, .bool false)], H', []⟩) := by
  intro k
  induction k with
  | zero =>
    intro i hi H hM hb
    have hi' : i = n := by omega
    subst hi'
    exact ⟨H, Nat.le_refl _, fun _ _ => rfl, by rw [iter_succ, last41]; rfl⟩
  | succ k ih =>
    intro i hi H hM hb
    have hs := step41 (c := c) (node := node) (term := term) (now := now) hM hb (show i < n by omega) hn
    have fr : ∀ z, z < H.n → (pm H (f i)).get z = H.get z := fun z hz => pm_lt hz
    cases hl : laterm node term now (f i) with
    | true =>
      rw [hl, if_pos rfl] at hs
      refine ⟨pm H (f i), by rw [pm_n]; omega, fr, ?_⟩
      rw [iter_succ, hs, iterK_r]; simp [anyL, hl]
    | false =>
      rw [hl, if_neg (by simp)] at hs
      obtain ⟨H', h1, h2, h3⟩ := ih (i + 1) (by omega) (hM.mono (fr b hb)) (by rw [pm_n]; omega)
      have h1' : H.n + 1 ≤ H'.n := by rw [pm_n] at h1; exact h1
      refine ⟨H', by omega, fun z hz => (h2 z (by rw [pm_n]; omega)).trans (fr z hz), ?_⟩
      rw [iter_succ, hs, iterK_n]
      simpa [anyL, hl] using h3
theorem later41 {H : AHeap} {b o n : Nat} {c : Option Nat} {f : Nat → Msg} {node term now : Int} (hM : Msgs H b o n f) (hb : b < H.n) (hn : n ≤ 60) : ∃ H', H.n ≤ H'.n ∧ (∀ z, z < H.n → H'.get z = H.get z) ∧
    denF none2 none2 c41 [.sl b o n c, .int .i64 node, .int .i64 term, .int .i64 now] H = some (.bool (anyL node term now f 0 n), H') := by
  obtain ⟨H', h1, h2, h⟩ := loop41 (c := c) (node := node) (term := term) (now := now) hn n 0 (by omega) hM hb
  refine ⟨H', h1, h2, ?_⟩
  rw [show ((0 : Nat) : Int) = 0 from rfl] at h
  cases ha : anyL node term now f 0 n with
  | true =>
    rw [ha, if_pos rfl] at h
    have h := iter_mono h (show n + 1 ≤ fuel by unfold fuel; omega)
    unfold c41
    simp (maxSteps := 10000000) +contextual [go_sem, h]
  | false =>
    rw [ha, if_neg (by simp)] at h
    have h := iter_mono h (show n + 1 ≤ fuel by unfold fuel; omega)
    unfold c41
    simp (maxSteps := 10000000) +contextual [go_sem, h]
theorem anyL_no {node term now : Int} {f : Nat → Msg} : ∀ (k i : Nat), anyL node term now f i k = false → ∀ j, i ≤ j → j < i + k → laterm node term now (f j) = false
  | 0, i, _, j, h1, h2 => by omega
  | k + 1, i, h, j, h1, h2 => by
    simp only [anyL, Bool.or_eq_false_iff] at h
    rcases Nat.eq_or_lt_of_le h1 with rfl | h3
    · exact h.1
    · exact anyL_no k (i + 1) h.2 j h3 (by omega)
end Go.Eng.SeatB

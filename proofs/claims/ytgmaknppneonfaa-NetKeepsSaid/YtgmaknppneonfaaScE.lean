/- Layer 14: the first datagram is taken off its way. -/
import Derived.Test.YtgmaknppneonfaaScD
set_option linter.unusedSimpArgs false
set_option linter.unusedVariables false
set_option maxHeartbeats 40000000
namespace Go.Eng
def sl3K (es : Nat) (lo : Option (Option AVal)) (hi mx : Option AVal) (x : Option AVal) : Option Rd := lo.bind fun lo => hi.bind fun hi => mx.bind fun mx => match x with
    | some (.sl b o n (some c)) => some (.v (slice3A b o n es c lo hi mx))
    | some (.sl b o n none) => some (.b b (slice3Blk b o n es lo hi mx))
    | _ => none
theorem ard_slice3 {τ : Tm} (es : Nat) (x : Opd) (lo : Option Opd) (hi mx : Opd) : ard τ (.slice3 es x lo hi mx) = sl3K es (evo τ lo) (ev τ hi) (ev τ mx) (ev τ x) := (rfl)
theorem sl3K_el (es b o n : Nat) (lo : Option AVal) (hi mx : AVal) : sl3K es (some lo) (some hi) (some mx) (some (.sl b o n none)) = some (.b b (slice3Blk b o n es lo hi mx)) := (rfl)
def clrK (H : AHeap) (ds : Dfs) (zero : List AVal) (x : Option AVal) : Option (AVal × AHeap × Dfs) := match x with
    | some .nils => some (.tup [], H, ds)
    | some (.etail ..) => some (.tup [], H, ds)
    | some (.sl b o n _) => (H.store b o (repeatA n zero)).map fun H' => (.tup [], H', ds)
    | _ => none
theorem axo_clear {Φ : Phi} {τ : Tm} {H : AHeap} {ds : Dfs} (zero : List AVal) (x : Opd) : axo Φ τ H ds (.clearS zero x) = clrK H ds zero (ev τ x) := (rfl)
theorem clrK_sl {H : AHeap} {ds : Dfs} (zero : List AVal) (b o n : Nat) (c : Option Nat) : clrK H ds zero (some (.sl b o n c)) = stK ds (H.store b o (repeatA n zero)) := (rfl)
theorem repeatA_one (z : List AVal) : repeatA 1 z = z := by simp [repeatA]
attribute [go_sem] ard_slice3 sl3K_el axo_clear clrK_sl repeatA_one
end Go.Eng
namespace Go.Eng.SeatC
open Go.Proofs
theorem store_el {H : AHeap} {w o : Nat} {L vs : List AVal} (hW : H.get w = .cells L 39 3 .elastic) (hl : o + vs.length ≤ L.length) (hc : vs.all AVal.isCell = true) : H.store w o vs = some (H.set w (.cells (placeA L o vs) 39 3 .elastic)) := by
  unfold AHeap.store
  rw [hW]
  simp only []
  rw [if_pos ⟨by simp, hl, hc⟩]
theorem delete29 {H : AHeap} {w K : Nat} {c0 M Z : List AVal} (hW : H.get w = .cells (c0 ++ M ++ Z) 39 3 .elastic) (lw : w < H.n) (h0 : c0.length = 3) (hM : M.length = K * 3) (hMc : M.all AVal.isCell = true) (hK : K ≤ 4200) :
    ∃ H' Z', denF none2 none2 c29 [.sl w 0 (K + 1) none, .int .i64 0, .int .i64 1] H = some (.sl w 0 K none, H') ∧ H'.n = H.n ∧ (∀ z, z ≠ w → H'.get z = H.get z) ∧ H'.get w = .cells (M ++ Z') 39 3 .elastic := by
  have hL : (c0 ++ M ++ Z).length = 3 + K * 3 + Z.length := by simp [h0, hM]; omega
  generalize hLL : c0 ++ M ++ Z = LL at hW hL
  have q1 : K + 1 ≤ (LL.length - 0) / 3 := by omega
  have f1 : slice3Blk w 0 (K + 1) 3 (some (.int .i64 0)) (.int .i64 1) (.int .i64 ((K : Int) + 1)) (.cells LL 39 3 .elastic) = some (.sl w 0 1 (some (K + 1))) := by
    simp only [slice3Blk, if_true, slice3A, mx3]
    rw [if_pos (by omega)]
    have e : ((K : Int) + 1).toNat = K + 1 := by omega
    simp only [Option.bind_some, e, abounds]
    rw [if_pos (by omega)]
    simp
  have f2 : sliceBlk w 0 (K + 1) 3 none (some (.int .i64 0)) (.cells LL 39 3 .elastic) = some (.sl w 0 0 none) := by
    simp only [sliceBlk, if_true, abounds]
    rw [if_pos (by omega)]
    simp
  -- the zeros behind
  have zer : ∀ (G : AHeap) (L2 : List AVal), G.get w = .cells L2 39 3 .elastic → L2.length = LL.length → L2.take (K * 3) = M → ∃ Z', sliceBlk w 0 K 3 (some (.int .i64 K)) (some (.int .i64 ((K : Int) + 1))) (.cells L2 39 3 .elastic) = some (.sl w (K * 3) 1 none) ∧ G.store w (K * 3) [.int .i64 0, .int .i64 0, .nils] = some (G.set w (.cells (M ++ Z') 39 3 .elastic)) := by
    intro G L2 hG hl hm
    refine ⟨[.int .i64 0, .int .i64 0, .nils] ++ L2.drop (K * 3 + 3), ?_, ?_⟩
    · have q2 : K + 1 ≤ (L2.length - 0) / 3 := by omega
      simp only [sliceBlk, if_true, abounds]
      rw [if_pos (by omega)]
      have e : ((K : Int) + 1).toNat = K + 1 := by omega
      simp only [Option.bind_some, e]
      rw [if_pos (by omega)]
      simp only [Option.bind_some, Int.toNat_natCast]
      by_cases hk : K = 0
      · subst hk; simp
      · rw [if_neg hk, if_pos (by omega)]; simp
    · rw [store_el hG (by simp; omega) (by simp [AVal.isCell])]
      simp only [placeA, hm, List.length_cons, List.length_nil, List.append_assoc]
  have hw1 : IntKind.i64.wrap 1 = 1 := by rw [IntKind.wrap_i64]; omega
  rcases Nat.eq_zero_or_pos K with rfl | hp
  · have hM0 : M = [] := List.eq_nil_of_length_eq_zero (by simpa using hM)
    subst hM0
    obtain ⟨Z', z1, z2⟩ := zer H LL hW rfl (by simp)
    refine ⟨H.set w (.cells ([] ++ Z') 39 3 .elastic), Z', ?_, by simp, fun z h => by rw [AHeap.get_set, if_neg h], by rw [AHeap.get_set, if_pos rfl]⟩
    simp at z1 z2 f1 f2
    by_cases hz : 1 < (LL.length - 0) / 3
    · have f3 : sliceBlk w 0 1 3 (some (.int .i64 1)) none (.cells LL 39 3 .elastic) = some (.sl w 3 0 none) := by
        simp only [sliceBlk, if_true, abounds, Option.bind_some]
        rw [if_pos (by omega)]
        simp only [Option.bind_some]
        rw [show (1 : Int).toNat = 1 from rfl, if_neg (by omega), if_pos hz]
      have f4 : appendA H 39 3 40 (.sl w 0 0 none) (.sl w 3 0 none) = some (.sl w 0 0 none, H) := by
        have : 3 ≤ LL.length := by omega
        simp [appendA, lenA, srcCells, hW, roomA, this]
      unfold c29
      simp (maxSteps := 10000000) +contextual [go_sem, hW, lw, f1, f2, f3, f4, z1, z2]
    · have f3 : sliceBlk w 0 1 3 (some (.int .i64 1)) none (.cells LL 39 3 .elastic) = some (.etail w 0 1 3) := by
        simp only [sliceBlk, if_true, abounds, Option.bind_some]
        rw [if_pos (by omega)]
        simp only [Option.bind_some]
        rw [show (1 : Int).toNat = 1 from rfl, if_neg (by omega), if_neg hz, if_pos rfl]
      have f4 : appendA H 39 3 40 (.sl w 0 0 none) (.etail w 0 1 3) = some (.sl w 0 0 none, H) := by
        simp [appendA, lenA, srcCells, hW, roomA]
      unfold c29
      simp (maxSteps := 10000000) +contextual [go_sem, hW, lw, f1, f2, f3, f4, z1, z2]
  · have f3 : sliceBlk w 0 (K + 1) 3 (some (.int .i64 1)) none (.cells LL 39 3 .elastic) = some (.sl w 3 K none) := by
      simp only [sliceBlk, if_true, abounds, Option.bind_some]
      rw [if_pos (by omega)]
      simp only [Option.bind_some]
      rw [show (1 : Int).toNat = 1 from rfl, if_neg (by omega), if_pos (by omega)]
      simp
    have hdrop : (LL.drop 3).take (K * 3) = M := by
      have e : LL.drop 3 = M ++ Z := by rw [← hLL, List.append_assoc]; exact List.drop_left' h0
      rw [e]; exact List.take_left' hM
    obtain ⟨Z', z1, z2⟩ := zer (H.set w (.cells (placeA LL 0 M) 39 3 .elastic)) (placeA LL 0 M) (by rw [AHeap.get_set, if_pos rfl]) (by simp [placeA]; omega) (by simp only [placeA, List.take_zero, List.nil_append]; exact List.take_left' hM)
    have f4 : appendA H 39 3 40 (.sl w 0 0 none) (.sl w 3 K none) = some (.sl w 0 K none, H.set w (.cells (placeA LL 0 M) 39 3 .elastic)) := by
      have e1 : 3 + K * 3 ≤ LL.length := by omega
      have e2 : K * 3 ≤ LL.length := by omega
      have e3 : ¬ K = 0 := by omega
      have st := store_el (o := 0) (vs := M) hW (by omega) hMc
      have hMc' := List.all_eq_true.1 hMc
      simp [appendA, lenA, srcCells, hW, roomA, hdrop, hM, hMc, e1, e2, e3, st]
      exact hMc'
    refine ⟨(H.set w (.cells (placeA LL 0 M) 39 3 .elastic)).set w (.cells (M ++ Z') 39 3 .elastic), Z', ?_, by simp, fun z h => by rw [AHeap.get_set, if_neg h, AHeap.get_set, if_neg h], by rw [AHeap.get_set, if_pos rfl]⟩
    generalize placeA LL 0 M = LP at *
    unfold c29
    simp (maxSteps := 10000000) +contextual [go_sem, hW, lw, f1, f2, f3, f4, z1, z2]
end Go.Eng.SeatC

/- Layer 16: LeaseKeeps. -/
import Derived.Test.YtakblaaipaehjaaSaK
set_option linter.unusedSimpArgs false
set_option linter.unusedVariables false
set_option maxHeartbeats 40000000
namespace Go.Eng.SeatA
open Go.Proofs
def Φ7 : Phi := updP (updP Φ5 24 (rspec r24)) 25 (rspec r24)
theorem p7_23 (l : List AVal) (H : AHeap) : Φ7 23 l H = pspec r23 l H := (rfl)
theorem p7_24 (l : List AVal) (H : AHeap) : Φ7 24 l H = rspec r24 l H := (rfl)
theorem p7_25 (l : List AVal) (H : AHeap) : Φ7 25 l H = rspec r24 l H := (rfl)
theorem ok7 : ∀ f, Sound Try.prog f (Φ7 f) := updP_ok (updP_ok ok5 s24) s25
def r5 : List AVal → AHeap → Option AVal
  | [v], H => (sliceInts H v).map fun _ => .bool true
  | _, _ => none
theorem step5 {l l' : List AVal} {e e' : TypeId} {es es' : Nat} {m m' : Mode} {H : AHeap} {q : Nat} (hH : H.get 0 = .cells l e es m) (hQ : H.get q = .cells l' e' es' m') {o n i : Nat} {c c' : Option Nat} {x : Int} (hi : i < n) (hx : l[o + i]? = some (.int .i64 x)) (hx' : l'[i]? = some (.int .i64 x)) (hn : n ≤ 9223372036854775807) (h0 : 0 < H.n) (hq : q < H.n) :
    aden Φ7 b5_0 ⟨[(0, .sl 0 o n c), (3, .sl q 0 n c'), (4, .int .i64 i)], H, []⟩ = some (.normal, ⟨[(0, .sl 0 o n c), (3, .sl q 0 n c'), (4, .int .i64 (i + 1 : Nat))], H, []⟩) := by
  have hw : IntKind.i64.wrap ((i : Int) + 1) = ((i : Int) + 1) := by rw [IntKind.wrap_i64]; omega
  have h1 : (i : Int) < (n : Int) := by omega
  unfold b5_0
  simp (maxSteps := 10000000) +contextual [go_sem, hH, hQ, h1, hi, hx, hx', hw, h0, hq]
theorem last5 {H : AHeap} {o n q : Nat} {c c' : Option Nat} : aden Φ7 b5_0 ⟨[(0, .sl 0 o n c), (3, .sl q 0 n c'), (4, .int .i64 n)], H, []⟩ = some (.exit 0, ⟨[(0, .sl 0 o n c), (3, .sl q 0 n c'), (4, .int .i64 n), (20, .bool false)], H, []⟩) := by
  unfold b5_0
  simp (maxSteps := 10000000) +contextual [go_sem]
theorem loop5 {l l' : List AVal} {e e' : TypeId} {es es' : Nat} {m m' : Mode} {H : AHeap} {q : Nat} (hH : H.get 0 = .cells l e es m) (hQ : H.get q = .cells l' e' es' m') (h0 : 0 < H.n) (hq : q < H.n) {xs : List Int} {o : Nat} {c c' : Option Nat} (hx : ∀ (i : Nat) (hi : i < xs.length), l[o + i]? = some (.int .i64 xs[i])) (hx' : ∀ (i : Nat) (hi : i < xs.length), l'[i]? = some (.int .i64 xs[i])) (hn : xs.length ≤ 9223372036854775807) :
    ∀ (k i : Nat), i + k = xs.length → iter (aden Φ7 b5_0) (k + 1) ⟨[(0, .sl 0 o xs.length c), (3, .sl q 0 xs.length c'), (4, .int .i64 i)], H, []⟩ = some (.exit 0, ⟨[(0, .sl 0 o xs.length c), (3, .sl q 0 xs.length c'), (4, .int .i64 xs.length), (20, .bool false)], H, []⟩) := by
  intro k
  induction k with
  | zero =>
    intro i hi
    have hi' : i = xs.length := by omega
    subst hi'
    rw [iter_succ, last5]
    rfl
  | succ k ih =>
    intro i hi
    have hlt : i < xs.length := by omega
    rw [iter_succ, step5 hH hQ hlt (hx i hlt) (hx' i hlt) hn h0 hq, iterK_n, ih (i + 1) (by omega)]
theorem nil5 {H : AHeap} : iter (aden Φ7 b5_0) (0 + 1) ⟨[(0, .nils), (3, .sl 0 0 0 (some 0)), (4, .int .i64 0)], H, []⟩ = some (.exit 0, ⟨[(0, .nils), (3, .sl 0 0 0 (some 0)), (4, .int .i64 0), (20, .bool false)], H, []⟩) := by
  rw [iter_succ]
  unfold b5_0
  simp (maxSteps := 10000000) +contextual [go_sem]
theorem s5 : Sound Try.prog 5 (rspec r5) := by
  refine (fun_sound ok7 none_soundD mixed Try.func5 cal5 comp5).rspec (φ := denF Φ7 none2 c5) fun args H v h => ?_
  unfold r5 at h
  split at h
  · rename_i u
    simp only [Option.map_eq_some_iff] at h
    obtain ⟨xs, hxs, rfl⟩ := h
    refine ⟨rfl, ?_⟩
    have hxs0 := hxs
    unfold sliceInts at hxs
    split at hxs
    · simp only [Option.some.injEq] at hxs; subst hxs
      have hgn : (sub H []).n = 0 := rfl
      have hA : appendA ((sub H []).push (.cells [] 3 1 .fixed)) 3 1 8 (.sl 0 0 0 (some 0)) .nils = some (.sl 0 0 0 (some 0), (sub H []).push (.cells [] 3 1 .fixed)) := by
        unfold appendA
        have : ((sub H []).push (.cells [] 3 1 .fixed)).get 0 = .cells [] 3 1 .fixed := by rw [AHeap.get_push, if_pos hgn.symm]
        simp [lenA, srcCells, this, roomA]
      refine ⟨[], [.nils], (sub H []).push (.cells [] 3 1 .fixed), List.nodup_nil, by simp, rfl, ?_, fun i hi => by simp at hi⟩
      have hl := iter_mono (nil5 (H := (sub H []).push (.cells [] 3 1 .fixed))) (show 0 + 1 ≤ fuel by unfold fuel; omega)
      unfold c5
      simp (maxSteps := 10000000) +contextual [go_sem, hl, hA, p7_23, p7_24, p7_25, r23, r24, sliceInts, hgn, intsOf, AVal.scals]
    · rename_i b o n c
      split at hxs
      · rename_i l e es m hb
        split at hxs
        · rename_i hle
          obtain ⟨hlen, hx⟩ := slice_at hle.1 hxs
          subst hlen
          have hg : (sub H [b]).get 0 = .cells l e es m := by rw [sub_get]; exact hb
          have hgn : (sub H [b]).n = 1 := rfl
          have hfu : xs.length + 1 ≤ fuel := by unfold fuel; omega
          have hs0 : ∀ I : AHeap, I.get 0 = .cells l e es m → sliceInts I (.sl 0 o xs.length c) = some xs := fun I hI => by
            simp only [sliceInts, hI]; rw [if_pos hle]; exact hxs
          have hnd : [b].Nodup := by simp
          have hsb : ∀ b' ∈ [b], scalBlk (H.get b') = true := by simp [hb, scalBlk, hle.2.2]
          have hrn : rens [b] [.sl b o xs.length c] = some [.sl 0 o xs.length c] := by simp [rens, ren]
          by_cases hbig : 1000 < xs.length
          · refine ⟨[b], [.sl 0 o xs.length c], sub H [b], hnd, hsb, hrn, ?_, fun i hi => rfl⟩
            have hbI : (1000 : Int) < (xs.length : Int) := by omega
            unfold c5
            simp (maxSteps := 10000000) +contextual [go_sem, hbI, hbig, p7_23, r23]
          · have hbI : ¬ (1000 : Int) < (xs.length : Int) := by omega
            have g1 : ((sub H [b]).push (.cells [] 3 1 .fixed)).get 0 = .cells l e es m := by rw [AHeap.get_push, if_neg (by omega)]; exact hg
            have g2 : ((sub H [b]).push (.cells [] 3 1 .fixed)).get 1 = .cells [] 3 1 .fixed := by rw [AHeap.get_push, if_pos hgn.symm]
            have hA := append_ints (c := c) g1 hle.1 hxs g2 (by omega)
            by_cases hz : xs.length = 0
            · have hx0 : xs = [] := List.eq_nil_of_length_eq_zero hz
              subst hx0
              refine ⟨[b], [.sl 0 o 0 c], (sub H [b]).push (.cells [] 3 1 .fixed), hnd, hsb, hrn, ?_, fun i hi => by
                simp only [List.length_cons, List.length_nil, Nat.zero_add] at hi
                rw [AHeap.get_push, if_neg (by omega)]⟩
              have hl := iter_mono (loop5 (xs := []) g1 g2 (by simp [hgn]) (by simp [hgn]) (o := o) (c := c) (c' := some 0) (by simp) (by simp) (by simp) 0 0 rfl) hfu
              simp only [List.length_nil] at hA hl hs0
              rw [if_pos trivial] at hA
              rw [show ((0 : Nat) : Int) = 0 from rfl] at hl
              unfold c5
              have hs1 := hs0 _ g1
              have hs2 : sliceInts ((sub H [b]).push (.cells [] 3 1 .fixed)) (.sl 1 0 0 (some 0)) = some [] := by simp [sliceInts, g2, AVal.scals, intsOf]
              simp (maxSteps := 10000000) +contextual [go_sem, hl, hA, p7_23, p7_24, p7_25, r23, r24, hs1, hs2, hgn]
            · rw [if_neg hz] at hA
              have hAn : ((sub H [b]).push (.cells [] 3 1 .fixed)).n = 2 := rfl
              rw [hAn] at hA
              have g3 : (((sub H [b]).push (.cells [] 3 1 .fixed)).push (.cells (xs.map (AVal.int .i64)) 3 1 .elastic)).get 0 = .cells l e es m := by rw [AHeap.get_push, if_neg (by rw [hAn]; omega)]; exact g1
              have g4 : (((sub H [b]).push (.cells [] 3 1 .fixed)).push (.cells (xs.map (AVal.int .i64)) 3 1 .elastic)).get 2 = .cells (xs.map (AVal.int .i64)) 3 1 .elastic := by rw [AHeap.get_push, if_pos hAn.symm]
              refine ⟨[b], [.sl 0 o xs.length c], ((sub H [b]).push (.cells [] 3 1 .fixed)).push (.cells (xs.map (AVal.int .i64)) 3 1 .elastic), hnd, hsb, hrn, ?_, fun i hi => by
                simp only [List.length_cons, List.length_nil, Nat.zero_add] at hi
                rw [AHeap.get_push, if_neg (by rw [hAn]; omega), AHeap.get_push, if_neg (by omega)]⟩
              have hl := iter_mono (loop5 g3 g4 (by simp [hgn]) (by simp [hgn]) (o := o) (c := c) (c' := none) hx (fun i hi => by simp [hi]) hle.2.1 xs.length 0 (by omega)) hfu
              rw [show ((0 : Nat) : Int) = 0 from rfl] at hl
              unfold c5
              have hs1 := hs0 _ g3
              have hs2 : sliceInts (((sub H [b]).push (.cells [] 3 1 .fixed)).push (.cells (xs.map (AVal.int .i64)) 3 1 .elastic)) (.sl 2 0 xs.length none) = some xs := by
                simp only [sliceInts, g4]
                rw [if_pos ⟨by simp, hle.2.1, scals_map xs⟩, List.drop_zero, List.take_of_length_le (by simp)]
                exact intsOf_map xs
              simp (maxSteps := 10000000) +contextual [go_sem, hl, hA, p7_23, p7_24, p7_25, r23, r24, hs1, hs2, hgn, hbI, hbig]
        · simp at hxs
      · simp at hxs
    · simp at hxs
  · simp at h
end Go.Eng.SeatA

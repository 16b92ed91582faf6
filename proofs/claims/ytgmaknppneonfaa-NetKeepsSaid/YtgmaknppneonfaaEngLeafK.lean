/- Slices of elements that are made of numbers alone. -/
import Derived.Test.YtgmaknppneonfaaEngLeaf
set_option linter.unusedSimpArgs false
set_option linter.unusedVariables false
namespace Go.Eng
open Go.ChangeShapes Go.WideShapes Go.ChangeAt Go.RowKit
/-- The numbers of a slice whose elements have k numbers each. -/
def sliceIntsK (H : AHeap) (k : Nat) : AVal → Option (List Int)
  | .nils => some []
  | .sl b o n _ => match H.get b with
    | .cells l _ _ _ => if o + n * k ≤ l.length ∧ n ≤ 9223372036854775807 ∧ AVal.scals l = true then intsOf ((l.drop o).take (n * k)) else none
    | _ => none
  | _ => none
theorem fit_ints : ∀ (m : Nat) (vs : List Value), fitK (List.replicate m (.int .i64)) vs → ∃ xs, intsOf (vs.map av0) = some xs ∧ ∀ x ∈ xs, (Lit.int .i64 x).wf = true
  | 0, [], _ => ⟨[], rfl, by simp⟩
  | 0, _ :: _, h => h.elim
  | m + 1, [], h => h.elim
  | m + 1, v :: vs, h => by
    rw [List.replicate_succ] at h
    obtain ⟨⟨n, rfl, hw⟩, h2⟩ := h
    obtain ⟨xs, hx, hxw⟩ := fit_ints m vs h2
    refine ⟨n :: xs, by simp [av0, intsOf, hx], fun x hx' => ?_⟩
    rcases List.mem_cons.1 hx' with rfl | h
    · exact hw
    · exact hxw x h
theorem intsK_of {H : Type} {enc : TypeId × Value → H} {P : Program} {W : World} {r : Reach} {base : Nat} {t e : TypeId} {v : Value} {d : DataW H} {p : List MemPlace} {n k : Nat} (ht : P.underlying t = some (.slice e)) (he : leaves P n e = some (List.replicate k (.int .i64))) (hk : P.cellsOf e = k) (hv : Value.okWide P W r base t v)
    (hA : DataW.Trod enc P W 0 (fun _ => true) true t v d p) : ∃ xs, sliceIntsK (heapOf W) k (avv W.heap.size v) = some xs ∧ ∀ x ∈ xs, (Lit.int .i64 x).wf = true := by
  rcases slice_leaves ht he (by simpa using hk) hv hA with h | ⟨b, o, len, cap, arr, te, h, hlc, hmx, hb, ho, hf⟩
  · rw [h]; exact ⟨[], rfl, by simp⟩
  · simp only [List.length_replicate] at hf
    have hle : o + len * k ≤ arr.size := by
      rcases Nat.eq_zero_or_pos len with h0 | h0
      · subst h0; simpa using ho
      · rcases Nat.eq_zero_or_pos k with hk0 | hk0
        · subst hk0; simpa using ho
        have := fitK_length (hf (len - 1) (by omega))
        simp only [List.length_take, List.length_drop, Array.length_toList, List.length_replicate] at this
        have e1 : len * k = (len - 1) * k + k := by
          conv => lhs; rw [show len = (len - 1) + 1 by omega, Nat.succ_mul]
        omega
    have hfit : fitK (List.replicate len (List.replicate k (LK.int .i64))).flatten ((arr.toList.drop o).take (len * k)) := by
      refine fit_rep (k := k) len _ (by simp; omega) fun i hi => ?_
      have := hf i hi
      have h2 : i * k + k ≤ len * k := by
        have := Nat.mul_le_mul_right k (show i + 1 ≤ len by omega)
        rw [Nat.succ_mul] at this; exact this
      rw [List.drop_take, List.take_take, List.drop_drop, Nat.min_eq_left (by omega)]
      exact this
    rw [List.flatten_replicate_replicate] at hfit
    obtain ⟨xs, hx, hw⟩ := fit_ints _ _ hfit
    refine ⟨xs, ?_, hw⟩
    rw [h]
    simp only [sliceIntsK, hb]
    rw [if_pos ⟨by simpa using hle, by omega, scals_av0 _⟩, ← List.map_drop, ← List.map_take]
    exact hx
/-- A slice of plain elements, as the engine sees it. -/
theorem slice_cells {H : Type} {enc : TypeId × Value → H} {P : Program} {W : World} {r : Reach} {base : Nat} {t e : TypeId} {v : Value} {d : DataW H} {p : List MemPlace} {n k : Nat} {a : List LK} (ht : P.underlying t = some (.slice e)) (he : leaves P n e = some a) (hk : P.cellsOf e = k) (hal : a.length = k) (hv : Value.okWide P W r base t v)
    (hA : DataW.Trod enc P W 0 (fun _ => true) true t v d p) : avv W.heap.size v = .nils ∨ ∃ (b o len cap : Nat) (L : List AVal) (te : TypeId) (g : Nat → List Value), avv W.heap.size v = .sl b o len (some cap) ∧ b < (heapOf W).n ∧ len ≤ 9223372036854775807 ∧ (heapOf W).get b = .cells L te 1 .ro ∧ o + len * k ≤ L.length ∧ ∀ i, i < len → (L.drop (o + i * k)).take k = (g i).map av0 ∧ fitK a (g i) := by
  subst hal
  rcases slice_leaves ht he hk hv hA with h | ⟨b, o, len, cap, arr, te, h, hlc, hmx, hb, ho, hf⟩
  · exact .inl h
  · have hle : o + len * a.length ≤ arr.size := by
      rcases Nat.eq_zero_or_pos len with h0 | h0
      · subst h0; simpa using ho
      · rcases Nat.eq_zero_or_pos a.length with hk0 | hk0
        · rw [hk0]; simpa using ho
        have := fitK_length (hf (len - 1) (by omega))
        simp only [List.length_take, List.length_drop, Array.length_toList] at this
        have e1 : len * a.length = (len - 1) * a.length + a.length := by
          conv => lhs; rw [show len = (len - 1) + 1 by omega, Nat.succ_mul]
        omega
    have hbn : b < (heapOf W).n := by
      rw [heapOf_n]
      rw [heapOf_get] at hb
      unfold blkOf at hb
      rcases Nat.lt_or_ge b W.heap.size with h | h
      · exact h
      · rw [Array.getElem?_eq_none h] at hb; simp at hb
    refine .inr ⟨b, o, len, cap, arr.toList.map av0, te, fun i => (arr.toList.drop (o + i * a.length)).take a.length, h, hbn, by omega, hb, by simpa using hle, fun i hi => ⟨by rw [← List.map_drop, ← List.map_take], hf i hi⟩⟩
end Go.Eng

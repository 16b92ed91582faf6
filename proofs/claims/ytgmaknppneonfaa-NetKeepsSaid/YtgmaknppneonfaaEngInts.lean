/- Slices of numbers, as the engine sees them. -/
import Derived.Test.YtgmaknppneonfaaEngZR
import Derived.Test.YtgmaknppneonfaaEngTop
import Derived.IntWalk
import Derived.ChangeSlices
set_option linter.unusedSimpArgs false
set_option linter.unusedVariables false
namespace Go.Eng
/-- The numbers in cells. -/
def intsOf : List AVal → Option (List Int)
  | [] => some []
  | .int .i64 n :: l => (intsOf l).map fun r => n :: r
  | _ => none
theorem intsOf_eq : ∀ {l : List AVal} {xs : List Int}, intsOf l = some xs → l = xs.map (AVal.int .i64)
  | [], xs, h => by simp only [intsOf, Option.some.injEq] at h; subst h; rfl
  | v :: l, xs, h => by
    unfold intsOf at h
    split at h
    · rename_i h1; cases h1
    · rename_i n l' h1
      cases h1
      simp only [Option.map_eq_some_iff] at h
      obtain ⟨r, hr, rfl⟩ := h
      rw [intsOf_eq hr]; rfl
    · simp at h
/-- The numbers of a slice of numbers. -/
def sliceInts (H : AHeap) : AVal → Option (List Int)
  | .nils => some []
  | .sl b o n _ => match H.get b with
    | .cells l _ _ _ => if o + n ≤ l.length ∧ n ≤ 9223372036854775807 ∧ AVal.scals l = true then intsOf ((l.drop o).take n) else none
    | _ => none
  | _ => none
theorem slice_at {l : List AVal} {o n : Nat} {xs : List Int} (hle : o + n ≤ l.length) (h : intsOf ((l.drop o).take n) = some xs) : xs.length = n ∧ ∀ (i : Nat) (hi : i < xs.length), l[o + i]? = some (.int .i64 xs[i]) := by
  have e := intsOf_eq h
  have hl : xs.length = n := by
    have := congrArg List.length e
    simp at this; omega
  refine ⟨hl, fun i hi => ?_⟩
  have := congrArg (fun m => m[i]?) e
  simp only [List.getElem?_map, List.getElem?_eq_getElem hi, Option.map_some] at this
  rw [List.getElem?_take, if_pos (by omega), List.getElem?_drop] at this
  exact this
end Go.Eng
namespace Go.Eng
theorem intsOf_map : ∀ (xs : List Int), intsOf (xs.map (AVal.int .i64)) = some xs
  | [] => rfl
  | x :: xs => by simp [intsOf, intsOf_map xs]
theorem scals_map : ∀ (xs : List Int), AVal.scals (xs.map (AVal.int .i64)) = true
  | [] => rfl
  | x :: xs => by simp [AVal.scals, AVal.scal, scals_map xs]
theorem isCell_map : ∀ (xs : List Int), (xs.map (AVal.int .i64)).all AVal.isCell = true
  | [] => rfl
  | x :: xs => by simp [AVal.isCell]
/-- append of a slice of numbers to a new, empty one. -/
theorem append_ints {H : AHeap} {b o n : Nat} {c : Option Nat} {l : List AVal} {e : TypeId} {es : Nat} {m : Mode} (hb : H.get b = .cells l e es m) (hle : o + n ≤ l.length) {xs : List Int} (hxs : intsOf ((l.drop o).take n) = some xs) {b2 : Nat} {elem : TypeId} (h2 : H.get b2 = .cells [] elem 1 .fixed) (hn : n ≤ 1000) :
    appendA H elem 1 8 (.sl b2 0 0 (some 0)) (.sl b o n c) = if n = 0 then some (.sl b2 0 0 (some 0), H) else some (.sl H.n 0 n none, H.push (.cells (xs.map (AVal.int .i64)) elem 1 .elastic)) := by
  have e1 := intsOf_eq hxs
  have hl : xs.length = n := (slice_at hle hxs).1
  unfold appendA
  simp only [lenA, Option.bind_some, srcCells, hb, Nat.mul_one, if_pos hle, e1, isCell_map, List.length_map, hl, true_and, h2, Nat.zero_add, roomA]
  by_cases h0 : n = 0
  · simp [h0]
  · have : ¬ n ≤ 0 := by omega
    have h3 : n * 8 ≤ 2 ^ 44 := by omega
    have h4 : n ≤ 2 ^ 44 := by omega
    simp [h0, h3, h4]
def appK (H : AHeap) (ds : Dfs) (elem : TypeId) (es by_ : Nat) (x y : Option AVal) : Option (AVal × AHeap × Dfs) := x.bind fun x => y.bind fun y => (appendA H elem es by_ x y).map fun (v, H') => (v, H', ds)
theorem axo_append {Φ : Phi} {τ : Tm} {H : AHeap} {ds : Dfs} (elem : TypeId) (es by_ : Nat) (x y : Opd) : axo Φ τ H ds (.append elem es by_ x y) = appK H ds elem es by_ (ev τ x) (ev τ y) := (rfl)
theorem appK_some {H : AHeap} {ds : Dfs} (elem : TypeId) (es by_ : Nat) (x y : AVal) : appK H ds elem es by_ (some x) (some y) = callR ds (appendA H elem es by_ x y) := (rfl)
attribute [go_sem] axo_append appK_some
end Go.Eng
namespace Go.Eng
open Go.ChangeShapes Go.WideShapes Go.ChangeAt Go.RowKit
theorem heap_cells {W : World} {b : Nat} {arr : Array Value} {e : TypeId} {fz : Nat × Nat} (h : W.heap[b]? = some (.cells arr e fz)) : (heapOf W).get b = .cells (arr.toList.map av0) e 1 .ro := by
  rw [heapOf_get, blkOf, h]
theorem rowAt_off {P : Program} {fits : TypeId → Bool} : ∀ (d : Nat) {e : TypeId} {count off n : Nat}, rowAt P fits d e count off n = true → off ≤ count * P.cellsOf e
  | 0, e, count, off, n, h => by simp [rowAt] at h
  | d + 1, e, count, off, n, h => by
    unfold rowAt at h
    simp only [] at h
    split at h
    · simp at h
    · rename_i hs
      have hd := Nat.div_add_mod off (P.cellsOf e)
      rw [Bool.or_eq_true] at h
      rcases h with h | h
      · simp only [Bool.and_eq_true, beq_iff_eq, decide_eq_true_eq] at h
        have h1 : off / P.cellsOf e ≤ count := by omega
        have h2 := Nat.mul_le_mul_left (P.cellsOf e) h1
        rw [Nat.mul_comm count]
        omega
      · rw [Bool.and_eq_true] at h
        have h1 : off / P.cellsOf e < count := by simpa using h.1
        have h2 := Nat.mul_le_mul_left (P.cellsOf e) (Nat.succ_le_of_lt h1)
        have h3 := Nat.mod_lt off (Nat.pos_of_ne_zero hs)
        rw [Nat.mul_comm count]
        rw [Nat.succ_eq_add_one, Nat.mul_add, Nat.mul_one] at h2
        omega
theorem liesAt_off {P : Program} : ∀ (d : Nat) {e : TypeId} {count off : Nat} {u : TypeId} {n : Nat}, liesAt P d e count off u n = true → off ≤ count * P.cellsOf e
  | 0, e, count, off, u, n, h => by simp [liesAt] at h
  | d + 1, e, count, off, u, n, h => by
    unfold liesAt at h
    rw [Bool.or_eq_true] at h
    rcases h with h | h
    · exact rowAt_off _ h
    · split at h
      · exact liesAt_off d h
      · simp at h
/-- A slice that is handed in: none, or of a block that is there. -/
theorem slice_of {P : Program} {W : World} {r : Reach} {base : Nat} {t e : TypeId} {v : Value} (ht : P.underlying t = some (.slice e)) (hv : Value.okWide P W r base t v) :
    v = .slice none 0 0 ∨ ∃ (b o len cap : Nat) (arr : Array Value) (te : TypeId) (fz : Nat × Nat), v = .slice (some ⟨b, o, none⟩) len cap ∧ len ≤ cap ∧ W.heap[b]? = some (.cells arr te fz) ∧ o ≤ arr.size := by
  obtain ⟨a, len, cap, rfl⟩ := okWide_slice ht hv
  unfold Value.okWide at hv
  rw [ht] at hv
  simp only [Cell.okWide] at hv
  cases a with
  | none =>
    left
    cases len with
    | zero => cases cap with
      | zero => rfl
      | succ c => simp [Cell.ok, ht] at hv
    | succ l => simp [Cell.ok, ht] at hv
  | some a =>
    right
    obtain ⟨b, o, spot⟩ := a
    simp only [Cell.ok, ht] at hv
    obtain ⟨h1, _, _, h2, row, cells, h3, h4⟩ := hv
    simp only at h2; subst h2
    simp only [World.shape?] at h3
    split at h3
    · rename_i arr te fz hb
      simp only [Option.some.injEq, Prod.mk.injEq] at h3
      obtain ⟨rfl, rfl⟩ := h3
      have h5 := liesAt_off _ h4
      refine ⟨b, o, len, cap, arr, te, fz, rfl, h1, hb, ?_⟩
      exact Nat.le_trans h5 (Nat.div_mul_le_self _ _)
    · simp at h3
theorem av0_int (n : Int) : av0 (.int .i64 n) = .int .i64 n := rfl
theorem intsOf_cells {l : List AVal} : ∀ (xs : List Int), (∀ (i : Nat), i < xs.length → l[i]? = some (.int .i64 (xs.getD i 0))) → l.length = xs.length → intsOf l = some xs := by
  intro xs h hl
  have : l = xs.map (AVal.int .i64) := by
    apply List.ext_getElem?
    intro i
    rcases Nat.lt_or_ge i xs.length with h' | h'
    · rw [h i h']; simp [List.getElem?_eq_getElem h', List.getD_eq_getElem?_getD]
    · rw [List.getElem?_eq_none (by omega), List.getElem?_eq_none (by simpa using h')]
  rw [this]
  clear this hl h
  induction xs with
  | nil => rfl
  | cons x xs ih => simp [intsOf, ih]
theorem ints_of {H : Type} {enc : TypeId × Value → H} {P : Program} {W : World} {r : Reach} {base : Nat} {t e : TypeId} {v : Value} {d : DataW H} {p : List MemPlace} (ht : P.underlying t = some (.slice e)) (he : P.underlying e = some (.int .i64)) (hc : P.cellsOf e = 1) (hv : Value.okWide P W r base t v)
    (hA : DataW.Trod enc P W 0 (fun _ => true) true t v d p) : ∃ xs, sliceInts (heapOf W) (avv W.heap.size v) = some xs ∧ ∀ x ∈ xs, (Lit.int .i64 x).wf = true := by
  rcases slice_of ht hv with rfl | ⟨b, o, len, cap, arr, te, fz, rfl, hlc, hb, ho⟩
  · exact ⟨[], rfl, by simp⟩
  · obtain ⟨m, hm⟩ := hA
    have hlt : b < W.heap.size := by
      rcases Nat.lt_or_ge b W.heap.size with h | h
      · exact h
      · rw [Array.getElem?_eq_none h] at hb; simp at hb
    rcases open_ints ht he hc hm with ⟨hcs, _⟩ | ⟨a, l, c, zs, hcs, _, hl, hmx, hz, _, hcell, hwf⟩
    · simp [Value.cells] at hcs
    · simp only [Value.cells, List.cons.injEq, Value.slice.injEq, Option.some.injEq, and_true] at hcs
      obtain ⟨rfl, rfl, rfl⟩ := hcs
      simp only [if_true] at hz
      have hav : avv W.heap.size (.slice (some ⟨b, o, none⟩) len cap) = .sl b o len (some cap) := by
        simp [avv, av, hlt]
      have hcl : ∀ i, i < zs.length → arr[o + i]? = some (.int .i64 (zs.getD i 0)) := fun i hi => by
        have := hcell i hi
        rw [add_plain, cell_of hb] at this
        exact this
      have hle : o + len ≤ arr.size := by
        rcases Nat.eq_zero_or_pos len with h | h
        · omega
        · have := hcl (len - 1) (by omega)
          rcases Nat.lt_or_ge (o + (len - 1)) arr.size with h' | h'
          · omega
          · rw [Array.getElem?_eq_none h'] at this; simp at this
      refine ⟨zs.take len, ?_, fun x hx => hwf x (List.mem_of_mem_take hx)⟩
      rw [hav]
      simp only [sliceInts, heap_cells hb]
      have hmx' : cap ≤ 9223372036854775807 := by simpa [maxLen] using hmx
      rw [if_pos ⟨by simpa using hle, by omega, scals_av0 _⟩]
      refine intsOf_cells _ (fun i hi => ?_) (by simp; omega)
      simp only [List.length_take] at hi
      rw [List.getElem?_take, if_pos (by omega), List.getElem?_drop, List.getElem?_map, Array.getElem?_toList, hcl i (by omega)]
      simp [av0, List.getD_eq_getElem?_getD, List.getElem?_take]
      rw [if_pos (by omega)]
end Go.Eng

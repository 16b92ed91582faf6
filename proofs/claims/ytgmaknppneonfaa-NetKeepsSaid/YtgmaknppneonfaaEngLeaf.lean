/- What a plain argument is made of: numbers, truth values, strings, however they are nested. -/
import Derived.Test.YtgmaknppneonfaaEngInts
import Derived.ChangeSlices
import Derived.DataReads
import Derived.ChangeArms
import Derived.OpenShut
set_option linter.unusedSimpArgs false
set_option linter.unusedVariables false
namespace Go.Eng
open Go.ChangeShapes Go.WideShapes Go.ChangeAt Go.RowKit
inductive LK where
  | int (k : IntKind)
  | bool
  | str
  | sl
def LK.fits : LK → Value → Prop
  | .int k, v => ∃ n, v = .int k n ∧ (Lit.int k n).wf = true
  | .bool, v => ∃ b, v = .bool b
  | .str, v => ∃ s, v = .string s ∧ s.size ≤ maxLen
  | .sl, v => ∃ a n c, v = .slice a n c ∧ n ≤ maxLen
def fitK : List LK → List Value → Prop
  | [], [] => True
  | k :: ks, v :: vs => k.fits v ∧ fitK ks vs
  | _, _ => False
theorem fitK_append : ∀ {a b : List LK} {u v : List Value}, fitK a u → fitK b v → fitK (a ++ b) (u ++ v)
  | [], b, [], v, _, h => h
  | k :: a, b, x :: u, v, h, h' => ⟨h.1, fitK_append h.2 h'⟩
  | [], _, _ :: _, _, h, _ => h.elim
  | _ :: _, _, [], _, h, _ => h.elim
theorem fitK_length : ∀ {a : List LK} {u : List Value}, fitK a u → u.length = a.length
  | [], [], _ => rfl
  | k :: a, x :: u, h => by simp [fitK_length h.2]
  | [], _ :: _, h => h.elim
  | _ :: _, [], h => h.elim
def leavesF (P : Program) (rec : TypeId → Option (List LK)) : Nat → List Field → Option (List LK)
  | _, [] => some []
  | off, f :: fs => if f.offset = off then (rec f.type).bind fun a => if a.length = P.cellsOf f.type then (leavesF P rec (off + a.length) fs).map fun r => a ++ r else none else none
def leaves (P : Program) : Nat → TypeId → Option (List LK)
  | 0, _ => none
  | d + 1, t => match P.underlying t with
    | some (.int k) => some [.int k]
    | some .bool => some [.bool]
    | some .string => some [.str]
    | some (.slice _) => some [.sl]
    | some (.struct fs) => (leavesF P (leaves P d) 0 fs.toList).bind fun l => if l.length = P.cellsOf t then some l else none
    | some (.array n e) => (leaves P d e).bind fun a => if a.length = P.cellsOf e ∧ n * a.length = P.cellsOf t then some (List.replicate n a).flatten else none
    | _ => none
theorem fit_rep {a : List LK} {k : Nat} : ∀ (n : Nat) (cs : List Value), cs.length = n * k → (∀ i, i < n → fitK a ((cs.drop (i * k)).take k)) → fitK (List.replicate n a).flatten cs
  | 0, cs, h, _ => by
    have : cs = [] := List.eq_nil_of_length_eq_zero (by simpa using h)
    subst this; trivial
  | n + 1, cs, h, hf => by
    rw [List.replicate_succ, List.flatten_cons]
    have h0 := hf 0 (by omega)
    simp only [Nat.zero_mul, List.drop_zero] at h0
    have e : cs = cs.take k ++ cs.drop k := (List.take_append_drop k cs).symm
    rw [e]
    refine fitK_append h0 (fit_rep (k := k) n (cs.drop k) (by rw [List.length_drop, h, Nat.succ_mul]; omega) fun i hi => ?_)
    have := hf (i + 1) (by omega)
    rw [List.drop_drop]
    rw [Nat.succ_mul, Nat.add_comm] at this
    exact this
section
variable {H : Type} {enc : TypeId × Value → H} {P : Program} {w : World} {base : Nat} {spare : Nat → Bool} {held : Bool}
theorem fields_fit {rec : TypeId → Option (List LK)} {tr : TypeId → List Value → Prop} (hr : ∀ t a cs, rec t = some a → tr t cs → fitK a cs) {cs : List Value} : ∀ (fs : List Field) (off : Nat) (l : List LK), leavesF P rec off fs = some l →
    (∀ f ∈ fs, tr f.type ((cs.drop f.offset).take (P.cellsOf f.type))) → off + l.length = cs.length → fitK l (cs.drop off)
  | [], off, l, h, _, hl => by
    simp only [leavesF, Option.some.injEq] at h; subst h
    have : cs.drop off = [] := List.drop_eq_nil_of_le (by simp at hl; omega)
    rw [this]; trivial
  | f :: fs, off, l, h, hm, hl => by
    simp only [leavesF] at h
    split at h
    · rename_i ho
      simp only [Option.bind_eq_some_iff] at h
      obtain ⟨a, ha, h⟩ := h
      split at h
      · rename_i hk
        simp only [Option.map_eq_some_iff] at h
        obtain ⟨r, hr', rfl⟩ := h
        have h1 := hr _ _ _ ha (hm f (by simp))
        rw [ho, ← hk] at h1
        have h2 := fields_fit hr fs (off + a.length) r hr' (fun g hg => hm g (by simp [hg])) (by simp at hl; omega)
        have e : cs.drop off = (cs.drop off).take a.length ++ cs.drop (off + a.length) := by
          rw [← List.drop_drop, List.take_append_drop]
        rw [e]
        exact fitK_append h1 h2
      · simp at h
    · simp at h
theorem trod_fit : ∀ (d : Nat) (t : TypeId) (ks : List LK), leaves P d t = some ks → ∀ (fuel : Nat) (cs : List Value) (x : DataW H × List MemPlace), DataW.trod enc P w base spare held fuel t cs = some x → fitK ks cs
  | 0, t, ks, h, fuel, cs, x, hx => by simp [leaves] at h
  | d + 1, t, ks, h, fuel, cs, x, hx => by
    unfold leaves at h
    split at h
    · rename_i k hu
      simp only [Option.some.injEq] at h; subst h
      obtain ⟨n, rfl, _, hw⟩ := DataW.trod_int hu hx
      exact ⟨⟨n, rfl, hw⟩, trivial⟩
    · rename_i hu
      simp only [Option.some.injEq] at h; subst h
      obtain ⟨b, rfl, _⟩ := DataW.trod_bool hu hx
      exact ⟨⟨b, rfl⟩, trivial⟩
    · rename_i hu
      simp only [Option.some.injEq] at h; subst h
      obtain ⟨b, rfl, _, hs⟩ := DataW.trod_string hu hx
      exact ⟨⟨b, rfl, hs⟩, trivial⟩
    · rename_i e hu
      simp only [Option.some.injEq] at h; subst h
      rcases DataW.trod_slice hu hx with ⟨hcs, _⟩ | ⟨ad, l, c, elems, rest, m', _, hcs, _, _, hl, hmx, hel, helem, _, _⟩
      · rw [hcs]; exact ⟨⟨_, _, _, rfl, Nat.zero_le _⟩, trivial⟩
      · rw [hcs]; exact ⟨⟨_, _, _, rfl, by first | exact Nat.le_trans hl hmx | omega⟩, trivial⟩
    · rename_i fs hu
      simp only [Option.bind_eq_some_iff] at h
      obtain ⟨l, hl, h⟩ := h
      split at h
      · rename_i hk
        simp only [Option.some.injEq] at h; subst h
        obtain ⟨xs, n, rfl, _, hlen, hxl, hf⟩ := DataW.trod_struct hu hx
        have := fields_fit (P := P) (rec := leaves P d) (tr := fun t cs => ∃ y, DataW.trod enc P w base spare held n t cs = some y) (fun t a cs ha ⟨y, hy⟩ => trod_fit d t a ha n cs y hy) (cs := cs) fs.toList 0 l hl (fun f hf' => by
          obtain ⟨i, hi, he⟩ := List.getElem_of_mem hf'
          have hfi : fs[i]? = some f := by rw [← Array.getElem?_toList, List.getElem?_eq_getElem hi, he]
          have := hf i f hfi
          have hix : i < xs.length := by simp at hi; omega
          rw [List.getElem?_eq_getElem hix] at this
          exact ⟨_, this⟩) (by omega)
        simpa using this
      · simp at h
    · rename_i n e hu
      simp only [Option.bind_eq_some_iff] at h
      obtain ⟨a, ha, h⟩ := h
      split at h
      · rename_i hk
        simp only [Option.some.injEq] at h; subst h
        obtain ⟨xs, m, rfl, _, hlen, hxl, hf⟩ := DataW.trod_array hu hx
        refine fit_rep (k := a.length) n cs (by rw [hlen, hk.2]) fun i hi => ?_
        have := hf i hi
        rw [List.getElem?_eq_getElem (by omega), ← hk.1] at this
        exact trod_fit d e a ha m _ _ this
      · simp at h
    · simp at h
end
end Go.Eng
namespace Go.Eng
open Go.ChangeShapes Go.WideShapes Go.ChangeAt Go.RowKit
theorem cells?_eq {W : World} {b o k : Nat} {arr : Array Value} {te : TypeId} {fz : Nat × Nat} (hb : W.heap[b]? = some (.cells arr te fz)) {cs : List Value} (h : W.cells? 0 ⟨b, o, none⟩ k = some cs) : cs = (arr.toList.drop o).take k ∧ cs.length = k := by
  unfold World.cells? at h
  rw [if_pos (Nat.zero_le _)] at h
  have hl : cs.length = k := by simpa using mapM_some_length h
  refine ⟨?_, hl⟩
  apply List.ext_getElem?
  intro i
  rcases Nat.lt_or_ge i k with hi | hi
  · have := mapM_some_get h i i (by simp [hi])
    rw [add_plain, cell_of hb] at this
    rw [← this, List.getElem?_take, if_pos hi, List.getElem?_drop, Array.getElem?_toList]
  · rw [List.getElem?_eq_none (by omega), List.getElem?_eq_none (by simp; omega)]
/-- A slice of plain elements that is handed in. -/
theorem slice_leaves {H : Type} {enc : TypeId × Value → H} {P : Program} {W : World} {r : Reach} {base : Nat} {t e : TypeId} {v : Value} {d : DataW H} {p : List MemPlace} {n : Nat} {a : List LK} (ht : P.underlying t = some (.slice e)) (he : leaves P n e = some a) (hk : P.cellsOf e = a.length) (hv : Value.okWide P W r base t v)
    (hA : DataW.Trod enc P W 0 (fun _ => true) true t v d p) : avv W.heap.size v = .nils ∨ ∃ (b o len cap : Nat) (arr : Array Value) (te : TypeId), avv W.heap.size v = .sl b o len (some cap) ∧ len ≤ cap ∧ cap ≤ 9223372036854775807 ∧ (heapOf W).get b = .cells (arr.toList.map av0) te 1 .ro ∧ o ≤ arr.size ∧
      ∀ i, i < len → fitK a ((arr.toList.drop (o + i * a.length)).take a.length) := by
  rcases slice_of ht hv with rfl | ⟨b, o, len, cap, arr, te, fz, rfl, hlc, hb, ho⟩
  · exact .inl rfl
  · right
    have hlt : b < W.heap.size := by
      rcases Nat.lt_or_ge b W.heap.size with h | h
      · exact h
      · rw [Array.getElem?_eq_none h] at hb; simp at hb
    obtain ⟨m, hm⟩ := hA
    rcases DataW.trod_slice ht hm with ⟨hcs, _⟩ | ⟨ad, l, c, elems, rest, m', _, hcs, _, _, hl, hmx, hel, helem, _, _⟩
    · simp [Value.cells] at hcs
    · simp only [Value.cells, List.cons.injEq, Value.slice.injEq, Option.some.injEq, and_true] at hcs
      obtain ⟨rfl, rfl, rfl⟩ := hcs
      refine ⟨b, o, len, cap, arr, te, by simp [avv, av, hlt], hlc, by simpa [maxLen] using hmx, heap_cells hb, ho, fun i hi => ?_⟩
      have := helem i hi
      rw [List.getElem?_eq_getElem (by omega), Option.bind_eq_some_iff] at this
      obtain ⟨cs, h1, h2⟩ := this
      rw [add_plain, hk] at h1
      obtain ⟨rfl, _⟩ := cells?_eq hb h1
      exact trod_fit n e a he _ _ _ h2
end Go.Eng

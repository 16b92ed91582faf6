/- The engine, last part: a law that answers true, as its row says it. -/
import Derived.Test.YtgmaknppneonfaaEngX
import Derived.WalkKit
import Derived.ProofKit
import Derived.OpenShut
import Derived.ShutString
import Derived.ChangeOld
import Derived.Below
import Derived.Carry
import Derived.SizedLaws
import Derived.KernelRfl
set_option linter.unusedSimpArgs false
set_option linter.unusedVariables false
namespace Go.Eng
open Go.ChangeShapes Go.WideShapes Go.ChangeAt Go.RowKit
theorem trodAll_len {H : Type} {enc : TypeId × Value → H} {P : Program} {w : World} {base : Nat} {spare : Nat → Bool} {held : Bool} : ∀ {ts : List TypeId} {vs : List Value} {ds : List (DataW H)} {ps : List MemPlace}, DataW.TrodAll enc P w base spare held ts vs ds ps → vs.length = ts.length ∧ ds.length = ts.length
  | [], [], [], _, _ => ⟨rfl, rfl⟩
  | t :: ts, v :: vs, d :: ds, ps, h => by
    obtain ⟨p, q, _, h2, _⟩ := h
    obtain ⟨h3, h4⟩ := trodAll_len h2
    exact ⟨by simp [h3], by simp [h4]⟩
  | [], _ :: _, _, _, h => h.elim
  | [], [], _ :: _, _, h => h.elim
  | _ :: _, [], _, _, h => h.elim
  | _ :: _, _ :: _, [], _, h => h.elim
theorem trodAll_below {H : Type} {enc : TypeId × Value → H} {P : Program} (hl : laidOutB P = true) {W W' : World} (hb : RowKit.Below W.heap.size W W') : ∀ (ts : List TypeId) (vs : List Value) (ds : List (DataW H)) (ps : List MemPlace),
    (ts.all fun t => P.readableRec t && decide (t < P.types.size)) = true → DataW.TrodAll enc P W 0 (fun _ => true) true ts vs ds ps → DataW.TrodAll enc P W' 0 (fun b => decide (b < W.heap.size)) true ts vs ds ps
  | [], [], [], ps, _, h => h
  | t :: ts, v :: vs, d :: ds, ps, ht, h => by
    obtain ⟨p, q, h1, h2, rfl⟩ := h
    simp only [List.all_cons, Bool.and_eq_true, decide_eq_true_eq] at ht
    refine ⟨p, q, Below.trod hl ht.1.1 ht.1.2 h1 hb ?_, trodAll_below hl hb ts vs ds q (by simpa using ht.2) h2, rfl⟩
    obtain ⟨m, hm⟩ := h1
    exact DataW.trod_lt m _ _ _ hm
  | [], _ :: _, _, _, _, h => h.elim
  | [], [], _ :: _, _, _, h => h.elim
  | _ :: _, [], _, _, _, h => h.elim
  | _ :: _, _ :: _, [], _, _, h => h.elim
theorem law_lifted {H : Type} {enc : TypeId × Value → H} {C : Checked} {os : Os} {f : FuncId} {fn : Func} {s : ChangeSpec} {conds : List PathCond} {tb : TypeId}
    (own : ownKnob C.prog.godebug = none) (started : os.Started) (noInit : C.prog.inits.idxOf? f = none) (hfn : C.prog.funcs[f]? = some fn)
    (witness : ∃ (w : World) (tape : Tape) (i : Input), w.os = os ∧ (w.forCall tape i).Shaped C.prog ∧ i.vars = [] ∧ Input.okWide C.prog (w.forCall tape i) .any w.heap.size f i ∧
      s.pre6 enc C.prog fn conds false (w.forCall tape i).memory i.args ∧ Assume.holds {} C.prog (lone (Frame.enter C.prog f i.args .normal) [] (w.forCall tape i)))
    (hs : s.vars = []) (hres : fn.resultTypes = #[tb]) (hb : C.prog.underlying tb = some .bool)
    (hspec : ∀ (ds : List (DataW H)), ds.length = fn.params.toList.length → s.fn H ds = { results := [.lit (.bool true)], args := ds })
    (hl : laidOutB C.prog = true) (hts : (fn.params.toList.all fun t => C.prog.readableRec t && decide (t < C.prog.types.size)) = true)
    {φ : List AVal → AHeap → Option (AVal × AHeap)} (hS : Sound C.prog f φ)
    (law : ∀ (W : World) (base : Nat) (args : Array Value) (ds : List (DataW H)) (p : List MemPlace), (∀ (j : Nat) t v, fn.params[j]? = some t → args[j]? = some v → Value.okWide C.prog W .any base t v) →
      DataW.TrodAll enc C.prog W 0 (fun _ => true) true fn.params.toList args.toList ds p → ∃ H', φ (args.toList.map (avv W.heap.size)) (heapOf W) = some (.bool true, H')) :
    ReturnsInHanded {} C os f .any (s.pre6 enc C.prog fn conds false) (s.post enc C.prog fn false true false false) := by
  refine returnsInHanded_of_change_sized own started noInit hfn witness ?_
  intro W base args ds gs before hval hW hcnd hsz _
  have hW' := hW
  obtain ⟨p, q, hA, hV, rfl, hfz, hnd⟩ := hW
  rw [hs] at hV
  obtain ⟨rfl, rfl⟩ := trodVars_none hV
  have hlen := (trodAll_len hA).2
  refine (law_calls hS W args (.bool true) (x := .bool true) (fun E => rfl) (law W base args ds p hval hA)).mono fun e W' ⟨he, bel⟩ => ?_
  subst he
  have e1 : s.fn H (ds ++ []) = { results := [.lit (.bool true)], args := ds } := by rw [List.append_nil]; exact hspec ds hlen
  refine ⟨_, rfl, ds, [], _, [], p, [], hW', ?_, ?_, ?_, bel.frame _, fun h => by cases h⟩
  · rw [e1, hres]; exact trodAll_mk1 (shut_bool hb _)
  · rw [e1]; exact trodAll_below hl bel _ _ _ _ hts hA
  · rw [e1, hs]; rfl

/-! ### What an argument is -/
theorem int_of {P : Program} {W : World} {r : Reach} {base : Nat} {t : TypeId} {k : IntKind} {v : Value} (h : P.underlying t = some (.int k)) (hv : Value.okWide P W r base t v) : ∃ n, v = .int k n ∧ k.has n := by
  unfold Value.okWide at hv
  rw [h] at hv
  simp only [Cell.okWide, Cell.ok, h] at hv
  split at hv <;> simp_all
theorem cell_int {P : Program} {W : World} {r : Reach} {base : Nat} {t : TypeId} {k : IntKind} {v : Value} (h : P.underlying t = some (.int k)) (hv : Cell.okWide P W r base t v) : ∃ n, v = .int k n ∧ k.has n := by
  simp only [Cell.okWide, Cell.ok, h] at hv
  split at hv <;> simp_all
/-- The cells of a struct or an array, each of its own type. -/
def FitL (P : Program) (W : World) (r : Reach) (base : Nat) : List TypeId → List Value → Prop
  | [], [] => True
  | t :: ts, v :: vs => Cell.okWide P W r base t v ∧ FitL P W r base ts vs
  | _, _ => False
theorem fit_of {P : Program} {W : World} {r : Reach} {base : Nat} : ∀ (ts : List TypeId) (vs : List Value), vs.length = ts.length → (∀ (i : Nat) (v : Value), vs[i]? = some v → ∃ u, ts[i]? = some u ∧ Cell.okWide P W r base u v) → FitL P W r base ts vs
  | [], [], _, _ => trivial
  | t :: ts, v :: vs, h, k => by
    refine ⟨?_, fit_of ts vs (by simpa using h) fun i v' hv => by simpa using k (i + 1) v' (by simpa using hv)⟩
    obtain ⟨u, hu, hk⟩ := k 0 v rfl
    simp only [List.getElem?_cons_zero, Option.some.injEq] at hu; subst hu; exact hk
  | [], _ :: _, h, _ => by simp at h
  | _ :: _, [], h, _ => by simp at h
theorem agg_of {P : Program} {W : World} {r : Reach} {base : Nat} {t : TypeId} {v : Value} {ts : List TypeId} (h : ∃ fs, P.underlying t = some (.struct fs)) (hts : P.cellTypes P.depth t = some ts) (hn : P.cellsOf t = ts.length) (hv : Value.okWide P W r base t v) : ∃ l, v = .agg l.toArray ∧ FitL P W r base ts l := by
  obtain ⟨fs, h⟩ := h
  unfold Value.okWide at hv
  rw [h] at hv
  simp only [] at hv
  obtain ⟨cs, rfl, hsz, us, hus, _, hk⟩ := hv
  rw [hts, Option.some.injEq] at hus; subst hus
  refine ⟨cs.toList, rfl, fit_of ts cs.toList (by simp [hsz, hn]) fun i v hi => ?_⟩
  obtain ⟨u, hu, hc⟩ := hk i v (by simpa using hi)
  have : i < ts.length := by
    rcases Nat.lt_or_ge i cs.toList.length with h' | h'
    · simp [hsz, hn] at h'; exact h'
    · rw [List.getElem?_eq_none h'] at hi; simp at hi
  rw [Nat.mod_eq_of_lt this] at hu
  exact ⟨u, hu, hc⟩
theorem arr_of {P : Program} {W : World} {r : Reach} {base : Nat} {t : TypeId} {v : Value} {ts : List TypeId} (h : ∃ n e, P.underlying t = some (.array n e)) (hts : P.cellTypes P.depth t = some ts) (hn : P.cellsOf t = ts.length) (hv : Value.okWide P W r base t v) : ∃ l, v = .agg l.toArray ∧ FitL P W r base ts l := by
  obtain ⟨n, e, h⟩ := h
  unfold Value.okWide at hv
  rw [h] at hv
  simp only [] at hv
  obtain ⟨cs, rfl, hsz, us, hus, _, hk⟩ := hv
  rw [hts, Option.some.injEq] at hus; subst hus
  refine ⟨cs.toList, rfl, fit_of ts cs.toList (by simp [hsz, hn]) fun i v hi => ?_⟩
  obtain ⟨u, hu, hc⟩ := hk i v (by simpa using hi)
  have : i < ts.length := by
    rcases Nat.lt_or_ge i cs.toList.length with h' | h'
    · simp [hsz, hn] at h'; exact h'
    · rw [List.getElem?_eq_none h'] at hi; simp at hi
  rw [Nat.mod_eq_of_lt this] at hu
  exact ⟨u, hu, hc⟩
theorem fit_int {P : Program} {W : World} {r : Reach} {base : Nat} {t : TypeId} {ts : List TypeId} {k : IntKind} {l : List Value} (h : FitL P W r base (t :: ts) l) (ht : P.underlying t = some (.int k)) : ∃ n m, l = .int k n :: m ∧ k.has n ∧ FitL P W r base ts m := by
  cases l with
  | nil => exact h.elim
  | cons v m =>
    obtain ⟨n, rfl, hn⟩ := cell_int ht h.1
    exact ⟨n, m, rfl, hn, h.2⟩
theorem fit_nil {P : Program} {W : World} {r : Reach} {base : Nat} {l : List Value} (h : FitL P W r base [] l) : l = [] := by
  cases l with
  | nil => rfl
  | cons v m => exact h.elim
/-- The arguments, each of its own type. -/
def ArgL (P : Program) (W : World) (r : Reach) (base : Nat) : List TypeId → List Value → Prop
  | [], [] => True
  | t :: ts, v :: vs => Value.okWide P W r base t v ∧ ArgL P W r base ts vs
  | _, _ => False
theorem args_fit {P : Program} {W : World} {r : Reach} {base : Nat} : ∀ (ts : List TypeId) (vs : List Value), vs.length = ts.length → (∀ (j : Nat) t v, ts[j]? = some t → vs[j]? = some v → Value.okWide P W r base t v) → ArgL P W r base ts vs
  | [], [], _, _ => trivial
  | t :: ts, v :: vs, h, k => ⟨k 0 t v rfl rfl, args_fit ts vs (by simpa using h) fun j t' v' h1 h2 => k (j + 1) t' v' (by simpa using h1) (by simpa using h2)⟩
  | [], _ :: _, h, _ => by simp at h
  | _ :: _, [], h, _ => by simp at h
theorem argL_of {P : Program} {W : World} {base : Nat} {H : Type} {enc : TypeId × Value → H} {fn : Func} {args : Array Value} {ds : List (DataW H)} {p : List MemPlace}
    (hval : ∀ (j : Nat) t v, fn.params[j]? = some t → args[j]? = some v → Value.okWide P W .any base t v) (hA : DataW.TrodAll enc P W 0 (fun _ => true) true fn.params.toList args.toList ds p) : ArgL P W .any base fn.params.toList args.toList :=
  args_fit _ _ (trodAll_len hA).1 fun j t v h1 h2 => hval j t v (by simpa using h1) (by simpa using h2)
theorem argL_cons {P : Program} {W : World} {r : Reach} {base : Nat} {t : TypeId} {ts : List TypeId} {l : List Value} (h : ArgL P W r base (t :: ts) l) : ∃ v m, l = v :: m ∧ Value.okWide P W r base t v ∧ ArgL P W r base ts m := by
  cases l with
  | nil => exact h.elim
  | cons v m => exact ⟨v, m, rfl, h.1, h.2⟩
theorem argL_nil {P : Program} {W : World} {r : Reach} {base : Nat} {l : List Value} (h : ArgL P W r base [] l) : l = [] := by
  cases l with
  | nil => rfl
  | cons v m => exact h.elim
theorem argL_int {P : Program} {W : World} {r : Reach} {base : Nat} {t : TypeId} {ts : List TypeId} {k : IntKind} {l : List Value} (h : ArgL P W r base (t :: ts) l) (ht : P.underlying t = some (.int k)) : ∃ n m, l = .int k n :: m ∧ k.has n ∧ ArgL P W r base ts m := by
  obtain ⟨v, m, rfl, h1, h2⟩ := argL_cons h
  obtain ⟨n, rfl, hn⟩ := int_of ht h1
  exact ⟨n, m, rfl, hn, h2⟩
end Go.Eng

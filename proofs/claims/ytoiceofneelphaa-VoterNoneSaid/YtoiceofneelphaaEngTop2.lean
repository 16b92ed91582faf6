/- The engine: a law that answers true, its arguments seen in any way that stands for them. -/
import Derived.Test.YtoiceofneelphaaEngLeafK
set_option linter.unusedSimpArgs false
set_option linter.unusedVariables false
namespace Go.Eng
open Go.ChangeShapes Go.WideShapes Go.ChangeAt Go.RowKit
theorem law_calls' {P : Program} {f : FuncId} {φ : List AVal → AHeap → Option (AVal × AHeap)} (h : Sound P f φ) (W : World) (args : Array Value) (v : AVal) {x : Value} (hx : ∀ E, cv E v = some x)
    {as : List AVal} (has : cvs (envOf W) as = some args.toList) (k : ∃ H', φ as (heapOf W) = some (v, H')) : Calls P f args W fun e W' => e = .returned x ∧ RowKit.Below W.heap.size W W' := by
  obtain ⟨H', hφ⟩ := k
  obtain ⟨hc, hn, hw, hC⟩ := h _ _ _ _ hφ
  have := hC (envOf W) W args.toList (wf_of W) has (rel_of W) (fresh_of W _)
  rw [Array.toArray_toList] at this
  refine this.mono fun e w' ⟨E', y, he, hy, R', X⟩ => ?_
  rw [hx E', Option.some.injEq] at hy
  subst hy
  exact ⟨he, X.os, X.tape, X.output, X.size, fun c hc => X.frame c hc fun b l hb hl => by rw [heapOf_get]; exact blkOf_rw W b⟩
theorem law_lifted' {H : Type} {enc : TypeId × Value → H} {C : Checked} {os : Os} {f : FuncId} {fn : Func} {s : ChangeSpec} {conds : List PathCond} {tb : TypeId}
    (own : ownKnob C.prog.godebug = none) (started : os.Started) (noInit : C.prog.inits.idxOf? f = none) (hfn : C.prog.funcs[f]? = some fn)
    (witness : ∃ (w : World) (tape : Tape) (i : Input), w.os = os ∧ (w.forCall tape i).Shaped C.prog ∧ i.vars = [] ∧ Input.okWide C.prog (w.forCall tape i) .any w.heap.size f i ∧
      s.pre6 enc C.prog fn conds false (w.forCall tape i).memory i.args ∧ Assume.holds {} C.prog (lone (Frame.enter C.prog f i.args .normal) [] (w.forCall tape i)))
    (hs : s.vars = []) (hres : fn.resultTypes = #[tb]) (hb : C.prog.underlying tb = some .bool)
    (hspec : ∀ (ds : List (DataW H)), ds.length = fn.params.toList.length → s.fn H ds = { results := [.lit (.bool true)], args := ds })
    (hl : laidOutB C.prog = true) (hts : (fn.params.toList.all fun t => C.prog.readableRec t && decide (t < C.prog.types.size)) = true)
    {φ : List AVal → AHeap → Option (AVal × AHeap)} (hS : Sound C.prog f φ)
    (law : ∀ (W : World) (base : Nat) (args : Array Value) (ds : List (DataW H)) (p : List MemPlace), (∀ (j : Nat) t v, fn.params[j]? = some t → args[j]? = some v → Value.okWide C.prog W .any base t v) →
      DataW.TrodAll enc C.prog W 0 (fun _ => true) true fn.params.toList args.toList ds p → ∃ as, cvs (envOf W) as = some args.toList ∧ ∃ H', φ as (heapOf W) = some (.bool true, H')) :
    ReturnsInHanded {} C os f .any (s.pre6 enc C.prog fn conds false) (s.post enc C.prog fn false true false false) := by
  refine returnsInHanded_of_change_sized own started noInit hfn witness ?_
  intro W base args ds gs before hval hW hcnd hsz _
  have hW' := hW
  obtain ⟨p, q, hA, hV, rfl, hfz, hnd⟩ := hW
  rw [hs] at hV
  obtain ⟨rfl, rfl⟩ := trodVars_none hV
  have hlen := (trodAll_len hA).2
  obtain ⟨as, has, hφ⟩ := law W base args ds p hval hA
  refine (law_calls' hS W args (.bool true) (x := .bool true) (fun E => rfl) has hφ).mono fun e W' ⟨he, bel⟩ => ?_
  subst he
  have e1 : s.fn H (ds ++ []) = { results := [.lit (.bool true)], args := ds } := by rw [List.append_nil]; exact hspec ds hlen
  refine ⟨_, rfl, ds, [], _, [], p, [], hW', ?_, ?_, ?_, bel.frame _, fun h => by cases h⟩
  · rw [e1, hres]; exact trodAll_mk1 (shut_bool hb _)
  · rw [e1]; exact trodAll_below hl bel _ _ _ _ hts hA
  · rw [e1, hs]; rfl

/-- A value, all that it has seen as it is. -/
def avr : Value → AVal
  | .agg l => .agg (l.toList.map av0)
  | v => av0 v
theorem cv_avr (E : Env) (v : Value) : cv E (avr v) = some v := by
  unfold avr
  split
  · simp [cv, cvs_av0]
  · exact cv_av0 E v
theorem cvs_avr (E : Env) : ∀ (l : List Value), cvs E (l.map avr) = some l
  | [] => rfl
  | v :: l => by simp [cvs, cv_avr, cvs_avr E l]
/-- What a loop ends with, its heap aside. -/
theorem exit_ok {x : Option (AEx × ASt)} {e : AEx} {tm : Tm} {ds : Dfs} (h : x.map (fun p => (p.1, p.2.tm, p.2.ds)) = some (e, tm, ds)) : ∃ G, x = some (e, ⟨tm, G, ds⟩) := by
  cases x with
  | none => simp at h
  | some p =>
    obtain ⟨e', ⟨tm', G, ds'⟩⟩ := p
    simp only [Option.map_some, Option.some.injEq, Prod.mk.injEq] at h
    obtain ⟨rfl, rfl, rfl⟩ := h
    exact ⟨G, rfl⟩
end Go.Eng

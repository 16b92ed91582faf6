/- The engine, fourth part: how an abstract heap stands to a world; the plain operations are sound. -/
import Derived.Test.YtgmaknppneonfaaEngC
import Derived.ChangeKeysEq
import Derived.Laws.Cells
import Derived.Laws.StructEq
import Derived.Laws.Strings
set_option linter.unusedSimpArgs false
set_option linter.unusedVariables false
namespace Go.Eng

theorem wrap_id {x : Int} (h0 : -9223372036854775808 ≤ x) (h1 : x < 9223372036854775808) : IntKind.i64.wrap x = x := by
  simp [IntKind.wrap, IntKind.bits, IntKind.signed]
  (try split) <;> omega
/-! ### Lists of values -/
theorem cvs_length {E : Env} : ∀ {l : List AVal} {vs : List Value}, cvs E l = some vs → vs.length = l.length
  | [], vs, h => by simp [cvs] at h; subst h; rfl
  | a :: l, vs, h => by
    simp only [cvs, Option.bind_eq_some_iff, Option.map_eq_some_iff] at h
    obtain ⟨x, hx, y, hy, rfl⟩ := h
    simp [cvs_length hy]
theorem cvs_append {E : Env} : ∀ {l m : List AVal} {vs ws : List Value}, cvs E l = some vs → cvs E m = some ws → cvs E (l ++ m) = some (vs ++ ws)
  | [], m, vs, ws, h, k => by simp [cvs] at h; subst h; simpa using k
  | a :: l, m, vs, ws, h, k => by
    simp only [cvs, Option.bind_eq_some_iff, Option.map_eq_some_iff] at h
    obtain ⟨x, hx, y, hy, rfl⟩ := h
    simp [cvs, hx, cvs_append hy k]
theorem cvs_drop {E : Env} : ∀ (n : Nat) {l : List AVal} {vs : List Value}, cvs E l = some vs → cvs E (l.drop n) = some (vs.drop n)
  | 0, l, vs, h => by simpa using h
  | n + 1, [], vs, h => by simp [cvs] at h; subst h; simp [cvs]
  | n + 1, a :: l, vs, h => by
    simp only [cvs, Option.bind_eq_some_iff, Option.map_eq_some_iff] at h
    obtain ⟨x, hx, y, hy, rfl⟩ := h
    simpa using cvs_drop n hy
theorem cvs_take {E : Env} : ∀ (n : Nat) {l : List AVal} {vs : List Value}, cvs E l = some vs → cvs E (l.take n) = some (vs.take n)
  | 0, l, vs, h => by simp [cvs]
  | n + 1, [], vs, h => by simp [cvs] at h; subst h; simp [cvs]
  | n + 1, a :: l, vs, h => by
    simp only [cvs, Option.bind_eq_some_iff, Option.map_eq_some_iff] at h
    obtain ⟨x, hx, y, hy, rfl⟩ := h
    simp [cvs, hx, cvs_take n hy]
theorem cvs_get {E : Env} : ∀ {l : List AVal} {vs : List Value} {i : Nat} {v : AVal}, cvs E l = some vs → l[i]? = some v → ∃ x, vs[i]? = some x ∧ cv E v = some x
  | [], vs, i, v, h, k => by simp at k
  | a :: l, vs, i, v, h, k => by
    simp only [cvs, Option.bind_eq_some_iff, Option.map_eq_some_iff] at h
    obtain ⟨x, hx, y, hy, rfl⟩ := h
    cases i with
    | zero => simp at k; subst k; exact ⟨x, by simp, hx⟩
    | succ i => simp at k ⊢; exact cvs_get hy k
theorem cvs_raw {E : Env} : ∀ (l : List Value), cvs E (l.map .raw) = some l
  | [] => rfl
  | a :: l => by simp [cvs, cv, cvs_raw l]
theorem cvs_cells {E : Env} {v : AVal} {x : Value} (h : cv E v = some x) : cvs E v.cells = some x.cells.toList := by
  cases v with
  | agg l =>
    simp only [cv, Option.map_eq_some_iff] at h
    obtain ⟨y, hy, rfl⟩ := h
    simpa [AVal.cells, Value.cells] using hy
  | raw v => simp only [cv, Option.some.injEq] at h; subst h; simp only [AVal.cells]; exact cvs_raw _
  | sl b o n c =>
    cases c <;> (simp only [cv, Option.map_eq_some_iff] at h; obtain ⟨l, hl, rfl⟩ := h; simp [AVal.cells, Value.cells, cvs, cv, hl])
  | fn f a c =>
    simp only [cv, Option.bind_eq_some_iff, Option.map_eq_some_iff] at h
    obtain ⟨y, hy, z, hz, rfl⟩ := h
    simp [AVal.cells, Value.cells, cvs, cv, hy, hz]
  | bool _ | int _ _ | str _ | nilp | nils | nilm | nilfn | nili => simp only [cv, Option.some.injEq] at h; subst h; simp [AVal.cells, Value.cells, cvs, cv]
  | ptr _ _ | etail _ _ _ _ | mp _ | iface _ _ | tup _ =>
    simp only [cv, Option.map_eq_some_iff] at h; obtain ⟨l, hl, rfl⟩ := h; simp [AVal.cells, Value.cells, cvs, cv, hl]
theorem cv_cell {E : Env} {v : AVal} {x : Value} (h : cv E v = some x) (k : v.isCell = true) : x.oneCell' = true := by
  cases v with
  | agg l => simp [AVal.isCell] at k
  | tup l => simp [AVal.isCell] at k
  | raw l =>
    simp only [cv, Option.some.injEq] at h; subst h
    cases l <;> first | rfl | simp [AVal.isCell, rawCell] at k
  | sl b o n c => cases c <;> (simp only [cv, Option.map_eq_some_iff] at h; obtain ⟨l, hl, rfl⟩ := h; rfl)
  | fn f a c =>
    simp only [cv, Option.bind_eq_some_iff, Option.map_eq_some_iff] at h
    obtain ⟨y, hy, z, hz, rfl⟩ := h; rfl
  | bool _ | int _ _ | str _ | nilp | nils | nilm | nilfn | nili => simp only [cv, Option.some.injEq] at h; subst h; rfl
  | ptr _ _ | etail _ _ _ _ | mp _ | iface _ _ =>
    simp only [cv, Option.map_eq_some_iff] at h; obtain ⟨l, hl, rfl⟩ := h; rfl
theorem cvs_cellsAll {E : Env} : ∀ {l : List AVal} {vs : List Value}, cvs E l = some vs → l.all AVal.isCell = true → ∀ x ∈ vs, x.oneCell' = true
  | [], vs, h, k, x, hx => by simp [cvs] at h; subst h; simp at hx
  | a :: l, vs, h, k, x, hx => by
    simp only [cvs, Option.bind_eq_some_iff, Option.map_eq_some_iff] at h
    obtain ⟨y, hy, z, hz, rfl⟩ := h
    simp only [List.all_cons, Bool.and_eq_true] at k
    rcases List.mem_cons.1 hx with rfl | hx
    · exact cv_cell hy k.1
    · exact cvs_cellsAll hz k.2 x hx

/-! ### Constants -/
theorem mapM_cvs {E : Env} {f : Value → Option AVal} (hf : ∀ v a, f v = some a → cv E a = some v) : ∀ (l : List Value) (as : List AVal), l.mapM f = some as → cvs E as = some l
  | [], as, h => by simp at h; subst h; rfl
  | v :: l, as, h => by
    simp only [List.mapM_cons, Option.pure_def, Option.bind_eq_bind, Option.bind_eq_some_iff, Option.some.injEq] at h
    obtain ⟨a, ha, b, hb, rfl⟩ := h
    simp [cvs, hf v a ha, mapM_cvs hf l b hb]
theorem ofV_sound {E : Env} : ∀ (n : Nat) (v : Value) (a : AVal), ofV n v = some a → cv E a = some v
  | n, .bool b, a, h => by cases n <;> (simp [ofV] at h; subst h; rfl)
  | n, .int k i, a, h => by cases n <;> (simp [ofV] at h; subst h; rfl)
  | n, .string s, a, h => by cases n <;> (simp [ofV] at h; subst h; simp [cv])
  | n, .pointer none, a, h => by cases n <;> (simp [ofV] at h; subst h; rfl)
  | n, .pointer (some _), a, h => by cases n <;> simp [ofV] at h
  | n, .slice none 0 0, a, h => by cases n <;> (simp [ofV] at h; subst h; rfl)
  | n, .slice none (k + 1) _, a, h => by cases n <;> simp [ofV] at h
  | n, .slice none 0 (k + 1), a, h => by cases n <;> simp [ofV] at h
  | n, .slice (some _) _ _, a, h => by cases n <;> simp [ofV] at h
  | n, .map none, a, h => by cases n <;> (simp [ofV] at h; subst h; rfl)
  | n, .map (some _), a, h => by cases n <;> simp [ofV] at h
  | n, .nilFunc, a, h => by cases n <;> (simp [ofV] at h; subst h; rfl)
  | n, .nilIface, a, h => by cases n <;> (simp [ofV] at h; subst h; rfl)
  | 0, .agg cs, a, h => by simp [ofV] at h
  | n + 1, .agg cs, a, h => by
    simp only [ofV, Option.map_eq_some_iff] at h
    obtain ⟨l, hl, rfl⟩ := h
    simp [cv, mapM_cvs (E := E) (fun v a h => ofV_sound n v a h) _ _ hl]
  | 0, .tuple cs, a, h => by simp [ofV] at h
  | n + 1, .tuple cs, a, h => by
    simp only [ofV, Option.map_eq_some_iff] at h
    obtain ⟨l, hl, rfl⟩ := h
    simp [cv, mapM_cvs (E := E) (fun v a h => ofV_sound n v a h) _ _ hl]
  | n, .float _ _, a, h => by cases n <;> simp [ofV] at h
  | n, .complex _ _ _, a, h => by cases n <;> simp [ofV] at h
  | n, .chan _, a, h => by cases n <;> simp [ofV] at h
  | n, .func _ _ _, a, h => by cases n <;> simp [ofV] at h
  | n, .iface _ _, a, h => by cases n <;> simp [ofV] at h

/-! ### The frame -/
def TRel (E : Env) (τ : Tm) (tm : Array Value) : Prop := ∀ i v, lk τ i = some v → ∃ x, tm[i]? = some x ∧ cv E v = some x
theorem TRel.mono {E E' : Env} {τ : Tm} {tm : Array Value} (h : TRel E τ tm) (le : E.le E') : TRel E' τ tm := fun i v k =>
  let ⟨x, hx, hv⟩ := h i v k; ⟨x, hx, cv_mono le _ _ hv⟩
theorem TRel.put {E : Env} {τ : Tm} {a : Act} (h : TRel E τ a.tmps) (dst : Option Nat) {v : AVal} {x : Value} (hd : ∀ d, dst = some d → d < a.tmps.size) (hv : cv E v = some x) : TRel E (put dst v τ) (a.put dst x).tmps := by
  cases dst with
  | none => exact h
  | some d =>
    intro i w hw
    simp only [Eng.put, lk] at hw
    have hd := hd d rfl
    by_cases e : i = d
    · subst e
      simp at hw; subst hw
      exact ⟨x, by simp [Act.put, Array.getElem?_setIfInBounds_self, hd], hv⟩
    · have e' : Nat.beq i d = false := by
        cases hb : Nat.beq i d with
        | false => rfl
        | true => exact absurd (Nat.eq_of_beq_eq_true hb) e
      simp only [e', Bool.false_eq_true, if_false] at hw
      obtain ⟨y, hy, hc⟩ := h i w hw
      exact ⟨y, by simp only [Act.put]; rw [Array.getElem?_setIfInBounds_ne (Ne.symm e)]; exact hy, hc⟩
theorem ev_sound {E : Env} {τ : Tm} {a : Act} (T : TRel E τ a.tmps) {x : Operand} {c : Opd} {v : AVal} (hc : compOpd x = some c) (hv : ev τ c = some v) : cv E v = some (a.eval x) := by
  cases x with
  | tmp t =>
    simp only [compOpd, Option.some.injEq] at hc; subst hc
    obtain ⟨y, hy, h⟩ := T t v hv
    simp [Act.eval, hy, h]
  | const k =>
    simp only [compOpd, Option.map_eq_some_iff] at hc
    obtain ⟨z, hz, rfl⟩ := hc
    simp only [ev, Option.some.injEq] at hv; subst hv
    exact ofV_sound 3 k z hz
  | global g => simp [compOpd] at hc
  | func f =>
    simp only [compOpd, Option.some.injEq] at hc; subst hc
    simp only [ev, Option.some.injEq] at hv; subst hv
    simp [cv, cvs, Act.eval]
theorem evs_sound {E : Env} {τ : Tm} {a : Act} (T : TRel E τ a.tmps) : ∀ {l : List Operand} {cs : List Opd} {vs : List AVal}, compOpds l = some cs → evs τ cs = some vs → cvs E vs = some (l.map a.eval)
  | [], cs, vs, hc, hv => by simp [compOpds] at hc; subst hc; simp [evs] at hv; subst hv; rfl
  | x :: l, cs, vs, hc, hv => by
    simp only [compOpds, List.mapM_cons, Option.pure_def, Option.bind_eq_bind, Option.bind_eq_some_iff, Option.some.injEq] at hc
    obtain ⟨c, hc, d, hd, rfl⟩ := hc
    simp only [evs, Option.bind_eq_some_iff, Option.map_eq_some_iff] at hv
    obtain ⟨v, hv, ws, hw, rfl⟩ := hv
    simp [cvs, ev_sound T hc hv, evs_sound T hd hw]
theorem evo_sound {E : Env} {τ : Tm} {a : Act} (T : TRel E τ a.tmps) {x : Option Operand} {c : Option Opd} {v : Option AVal} (hc : compOpt x = some c) (hv : evo τ c = some v) :
    (x = none ∧ v = none) ∨ ∃ y u, x = some y ∧ v = some u ∧ cv E u = some (a.eval y) := by
  cases x with
  | none =>
    simp only [compOpt, Option.some.injEq] at hc; subst hc
    simp only [evo, Option.some.injEq] at hv; exact .inl ⟨rfl, hv.symm⟩
  | some y =>
    simp only [compOpt, Option.map_eq_some_iff] at hc
    obtain ⟨z, hz, rfl⟩ := hc
    simp only [evo, Option.map_eq_some_iff] at hv
    obtain ⟨u, hu, rfl⟩ := hv
    exact .inr ⟨y, u, rfl, rfl, ev_sound T hz hu⟩

/-! ### Types -/
section
variable {P : Program}
theorem info_of_size {t : TypeId} {s : Nat} (h : sizeT P t = some s) : ∃ i, P.info? t = some i ∧ i.size = s := by
  simpa [sizeT] using h
theorem run_sizeT {t : TypeId} {s : Nat} (h : sizeT P t = some s) (w : World) : (sizeOf t).run P w = .ok s w := by
  obtain ⟨i, hi, rfl⟩ := info_of_size h
  simp [sizeOf, run_typeInfo w hi]
theorem run_aggT {t : TypeId} {d : TypeDesc} (h : P.underlying t = some d) (w : World) : (isAgg t).run P w = .ok (aggT P t) w := by
  simp only [isAgg, Sem.run_bind, run_underlying h, Result.andThen_ok, aggT, h]
  cases d <;> rfl
theorem run_zeroV {t : TypeId} {z : AVal} (h : zeroV P t = some z) (w : World) : ∃ x, (zeroValue t).run P w = .ok x w ∧ ∀ E, cv E z = some x := by
  simp only [zeroV, Option.bind_eq_some_iff] at h
  obtain ⟨x, ⟨i, hi, hz⟩, h⟩ := h
  exact ⟨x, by simp [zeroValue, run_typeInfo w hi, hz], fun E => ofV_sound 3 _ _ h⟩
theorem run_zeroC {t : TypeId} {z : List AVal} (h : zeroC P t = some z) (w : World) : ∃ x, (zeroValue t).run P w = .ok x w ∧ ∀ E, cvs E z = some x.cells.toList := by
  simp only [zeroC, Option.map_eq_some_iff] at h
  obtain ⟨y, hy, rfl⟩ := h
  obtain ⟨x, hx, hE⟩ := run_zeroV hy w
  exact ⟨x, hx, fun E => cvs_cells (hE E)⟩
theorem run_partA {E : Env} {t : TypeId} {d : TypeDesc} {s off : Nat} (hu : P.underlying t = some d) (hs : sizeT P t = some s) {cs : List AVal} {arr : Array Value} (hc : cvs E cs = some arr.toList) {v : AVal} (hv : partA (aggT P t) cs off s = some v) (w : World) :
    ∃ x, (part t arr off).run P w = .ok x w ∧ cv E v = some x := by
  simp only [part, Sem.run_bind, run_aggT hu, Result.andThen_ok]
  simp only [partA] at hv
  by_cases ha : aggT P t = true
  · rw [if_pos ha] at hv ⊢
    by_cases hb : off + s ≤ cs.length
    · rw [if_pos hb] at hv
      simp only [Option.some.injEq] at hv; subst hv
      refine ⟨.agg (arr.extract off (off + s)), by simp [run_sizeT hs], ?_⟩
      simp only [cv, cvs_take s (cvs_drop off hc), Option.map_some, Option.some.injEq, Value.agg.injEq]
      apply Array.ext'
      simp [Array.toList_extract, List.extract_eq_take_drop]
    · rw [if_neg hb] at hv; simp at hv
  · rw [if_neg ha] at hv ⊢
    obtain ⟨x, hx, h⟩ := cvs_get hc hv
    have hx' : arr[off]? = some x := by rw [← Array.getElem?_toList]; exact hx
    exact ⟨x, by simp [hx'], h⟩
end
end Go.Eng

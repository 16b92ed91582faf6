/- The engine, twenty-third part: functions are sound. -/
import Derived.Test.YtgmaknppneonfaaEngV
import Derived.Laws.Sem
set_option linter.unusedSimpArgs false
set_option linter.unusedVariables false
namespace Go.Eng
variable {P : Program}

theorem lk_enum : ∀ (l : List AVal) (k i : Nat), lk (enum k l) i = if k ≤ i then l[i - k]? else none
  | [], k, i => by simp [enum, lk]
  | v :: l, k, i => by
    simp only [enum, lk]
    by_cases h : Nat.beq i k = true
    · have := Nat.eq_of_beq_eq_true h; subst this; simp
    · have hne : i ≠ k := fun e => h (by subst e; exact Nat.beq_refl i)
      rw [if_neg h, lk_enum l (k + 1) i]
      by_cases hk : k ≤ i
      · obtain ⟨j, hj⟩ : ∃ j, i - k = j + 1 := ⟨i - k - 1, by omega⟩
        rw [if_pos hk, if_pos (by omega), hj, show i - (k + 1) = j by omega]
        simp
      · rw [if_neg hk, if_neg (by omega)]
theorem cvs_get' {E : Env} : ∀ {l : List AVal} {vs : List Value}, cvs E l = some vs → ∀ (i : Nat) (v : AVal), l[i]? = some v → ∃ x, vs[i]? = some x ∧ cv E v = some x := fun h i v hv => cvs_get h hv

theorem run_mapM_cons {α : Type} {f : α → Sem Value} {r : α} {rs : List α} {w : World} {y : Value} {vs : List Value} (h1 : (f r).run P w = .ok y w) (h2 : (rs.mapM f).run P w = .ok vs w) : ((r :: rs).mapM f).run P w = .ok (y :: vs) w := by
  simp only [List.mapM_cons, Sem.run_bind, Sem.run_pure, Result.andThen_ok, h1, h2]
theorem results_sound {E : Env} {H : AHeap} {w : World} (R : Rel E H w) {τ : Tm} {tmps : Array Value} (T : TRel E τ tmps) : ∀ {rs : List ResultVar} {cs : List CRes} {l : List AVal}, rs.mapM (compRes P) = some cs → resA τ H cs = some l →
    ∃ vs, (rs.mapM (fun | .tmp t => pure (tmps.getD t undef) | .cell a t => do loadVar t (← asAddr (tmps.getD a undef)) : ResultVar → Sem Value)).run P w = .ok vs w ∧ cvs E l = some vs
  | [], cs, l, hc, hl => by
    simp at hc; subst hc
    simp only [resA, Option.some.injEq] at hl; subst hl
    exact ⟨[], by simp, rfl⟩
  | r :: rs, cs, l, hc, hl => by
    simp only [List.mapM_cons, Option.pure_def, Option.bind_eq_bind, Option.bind_eq_some_iff, Option.some.injEq] at hc
    obtain ⟨c, hcr, cr, hcs, rfl⟩ := hc
    cases r with
    | tmp t =>
      simp only [compRes, Option.some.injEq] at hcr; subst hcr
      simp only [resA, Option.bind_eq_some_iff, Option.map_eq_some_iff] at hl
      obtain ⟨v, hv, l', hl', rfl⟩ := hl
      obtain ⟨vs, hrun, hvs⟩ := results_sound R T hcs hl'
      obtain ⟨x, hx, hxv⟩ := T t v hv
      refine ⟨x :: vs, ?_, by simp [cvs, hxv, hvs]⟩
      refine run_mapM_cons ?_ hrun
      simp [Array.getD_eq_getD_getElem?, hx]
    | cell a t =>
      have key : ∃ (agg : Bool) (s : Nat) (d : TypeDesc), c = .cell a agg s ∧ P.underlying t = some d ∧ agg = aggT P t ∧ (aggT P t = true → sizeT P t = some s) ∧ (aggT P t = false → s = 1) := by
        simp only [compRes] at hcr
        split at hcr
        · rename_i ha
          simp only [Option.map_eq_some_iff] at hcr
          obtain ⟨s, hs, rfl⟩ := hcr
          cases hu : P.underlying t with
          | none => simp [aggT, hu] at ha
          | some d => exact ⟨true, s, d, rfl, rfl, ha.symm, fun _ => hs, fun h => by rw [ha] at h; simp at h⟩
        · rename_i ha
          split at hcr
          · rename_i hi
            simp only [Option.some.injEq] at hcr
            obtain ⟨d, hd⟩ := Option.isSome_iff_exists.1 hi
            exact ⟨false, 1, d, hcr.symm, hd, by simpa using ha, fun h => absurd h ha, fun _ => rfl⟩
          · simp at hcr
      obtain ⟨agg, s, d, rfl, hu, rfl, h1, h2⟩ := key
      simp only [resA] at hl
      split at hl
      · rename_i b o hlk
        simp only [Option.bind_eq_some_iff, Option.map_eq_some_iff] at hl
        obtain ⟨v, hv, l', hl', rfl⟩ := hl
        obtain ⟨vs, hrun, hvs⟩ := results_sound R T hcs hl'
        obtain ⟨x, hx, hxv⟩ := T a _ hlk
        simp only [cv, Option.map_eq_some_iff] at hxv
        obtain ⟨lo, hlo, rfl⟩ := hxv
        obtain ⟨y, hy, hyv⟩ := run_loadVar_at (P := P) R hlo hu h1 h2 hv
        refine ⟨y :: vs, ?_, by simp [cvs, hyv, hvs]⟩
        have : tmps.getD a undef = .pointer (some ⟨lo.blk, o, none⟩) := by simp [Array.getD_eq_getD_getElem?, hx]
        refine run_mapM_cons ?_ hrun
        simp only [Sem.run_bind, Sem.run_pure, Result.andThen_ok, this, asAddr, hy]
      · simp at hl

theorem run_map_toArray {β : Type} {m : Sem (List Value)} {k : Array Value → Sem β} {w : World} {vs : List Value} (h : m.run P w = .ok vs w) : ((List.toArray <$> m) >>= k).run P w = (k vs.toArray).run P w := by
  rw [map_eq_pure_bind]
  simp only [Sem.run_bind, Sem.run_pure, Result.andThen_ok, h]
theorem results_ok {E : Env} {H : AHeap} {w : World} (R : Rel E H w) {τ : Tm} {tmps : Array Value} (T : TRel E τ tmps) {fn : Func} {cs : List CRes} {l : List AVal} (hc : fn.results.toList.mapM (compRes P) = some cs) (hl : resA τ H cs = some l) :
    ∃ v, (results fn tmps).run P w = .ok v w ∧ cv E (tupA l) = some v := by
  obtain ⟨vs, hrun, hvs⟩ := results_sound R T hc hl
  refine ⟨if h : vs.toArray.size = 1 then vs.toArray[0] else .tuple vs.toArray, ?_, ?_⟩
  · unfold results
    rw [Array.mapM_eq_mapM_toList]
    refine (run_map_toArray hrun).trans ?_
    simp only [Sem.run_pure]
  · match l, vs, hvs with
    | [], vs, hvs => simp only [cvs, Option.some.injEq] at hvs; subst hvs; simp [tupA, cv, cvs]
    | [v], vs, hvs =>
      simp only [cvs, Option.bind_eq_some_iff, Option.map_eq_some_iff] at hvs
      obtain ⟨x, hx, r, hr, rfl⟩ := hvs
      simp only [Option.some.injEq] at hr; subst hr
      simpa [tupA] using hx
    | v :: v' :: l, vs, hvs =>
      have hlen := cvs_length hvs
      simp only [List.length_cons] at hlen
      rw [dif_neg (by simp; omega)]
      simp [tupA, cv, hvs]

/-- The deferred calls, one behind the other. -/
theorem runDfs_n {Ψ : Phi} (hΨ : ∀ f, SoundD P f (Ψ f)) : ∀ {ds : Dfs} {H H' : AHeap}, runDfs Ψ ds H = some H' → H.n ≤ H'.n ∧ (H.wf → H'.wf)
  | [], H, H', h => by simp only [runDfs, Option.some.injEq] at h; subst h; exact ⟨Nat.le_refl _, id⟩
  | (f, args) :: ds, H, H', h => by
    simp only [runDfs, Option.bind_eq_some_iff, Prod.exists] at h
    obtain ⟨v, H1, h1, h2⟩ := h
    unfold callVal at h1
    split at h1
    · have k1 := hΨ _ _ _ _ _ h1
      have k2 := runDfs_n hΨ h2
      exact ⟨Nat.le_trans k1.2.1 k2.1, fun k => k2.2 (k1.2.2.1 k)⟩
    · simp at h1
theorem leaves_sound {Ψ : Phi} (hΨ : ∀ f, SoundD P f (Ψ f)) {fn : Func} {tmps : Array Value} {R : Ending → World → Prop} : ∀ {ds : Dfs} {Ds : List Deferred} {H H' : AHeap} {E : Env} {w : World}, runDfs Ψ ds H = some H' → H.wf → DRel E ds Ds → Rel E H w → Fresh E H.n H'.n →
    (∀ E' w', Ext E H w E' H' w' → Rel E' H' w' → ∃ v, (results fn tmps).run P w' = .ok v w' ∧ R (.returned v) w') → Leaves P fn tmps R Ds .returning w
  | [], [], H, H', E, w, h, k, D, R', hF, hQ => by
    simp only [runDfs, Option.some.injEq] at h; subst h
    exact hQ E w (Ext.refl _ _ _) R'
  | (f, args) :: ds, D :: Ds, H, H', E, w, h, k, hD, R', hF, hQ => by
    obtain ⟨⟨g, first, cap, fv, pv, av, rfl, h2, h3, h4, rfl⟩, hr⟩ := hD
    simp only [runDfs, Option.bind_eq_some_iff, Prod.exists] at h
    obtain ⟨v, H1, h1, h5⟩ := h
    simp only [callVal] at h1
    obtain ⟨hcal, hn, hw, hC⟩ := hΨ _ _ _ _ _ h1
    have hn2 := (runDfs_n hΨ h5).1
    have hC := hC E w _ .returning k (cvs_append (cvs_append h2 h4) h3) R' (hF.left hn2)
    refine leaves_cons (by simp) (f := g) (args := ((fv ++ av) ++ pv).toArray) ?_ (hC.mono fun e u' w' he => ?_)
    · simp only [invoke]
      rw [show (fv ++ av).toArray ++ pv.toArray = ((fv ++ av) ++ pv).toArray by simp]
      exact callFunc_run hcal _ _
    · obtain ⟨rfl, E', x, rfl, hx, R'', X⟩ := he
      simp only [settle]
      exact leaves_sound hΨ h5 (hw k) (hr.mono X.le) R'' (hF.right X) fun E'' w'' X' => hQ E'' w'' (X.trans X')
  | (f, args) :: ds, [], H, H', E, w, h, k, hD, R', hF, hQ => hD.elim
  | [], D :: Ds, H, H', E, w, h, k, hD, R', hF, hQ => hD.elim

theorem start_rel {E : Env} {fn : Func} {args : List AVal} {as : List Value} (has : cvs E args = some as) (hle : args.length ≤ fn.ntmps) {H : AHeap} {w : World} (k : H.wf) (R : Rel E H w) :
    SRel E ⟨enum 0 args, H, []⟩ { tmps := as.toArray ++ Array.replicate (fn.ntmps - as.toArray.size) undef, defers := [] } w fn.ntmps := by
  have hlen := cvs_length has
  refine ⟨k, fun i v h => ?_, trivial, R, by simp; omega⟩
  rw [lk_enum] at h
  simp only [Nat.zero_le, if_true, Nat.sub_zero] at h
  obtain ⟨x, hx, hv⟩ := cvs_get has h
  refine ⟨x, ?_, hv⟩
  have hlt : i < as.length := by
    rcases Nat.lt_or_ge i as.length with h | h
    · exact h
    · rw [List.getElem?_eq_none h] at hx; simp at hx
  rw [Array.getElem?_append_left (by simpa using hlt)]
  simpa using hx

theorem callable_of {f : FuncId} {fn : Func} (hf : P.funcs[f]? = some fn) (hb : fn.body.isSome = true) (hn : (fn.name != "runtime.NumGoroutine") = true) : callable P f = true := by
  unfold callable; rw [hf]; simp [hb, hn]

theorem fun_sound {Φ Ψ : Phi} (hΦ : ∀ f, Sound P f (Φ f)) (hΨ : ∀ f, SoundD P f (Ψ f)) (hm : P.follows .mixedOrders = true) {f : FuncId} {fn : Func} (hf : P.funcs[f]? = some fn) (hcal : callable P f = true) {ks : List (List Nat)} {c : CFunc} (hc : compFunc P fn ks = some c) :
    Sound P f (denF Φ Ψ c) := by
  intro args H v H' h
  simp only [compFunc, Option.bind_eq_some_iff] at hc
  obtain ⟨code, hb, ⟨cc, r⟩, hcc, res, hres, hc⟩ := hc
  split at hc
  · rename_i hle
    simp only [Option.some.injEq] at hc; subst hc
    simp only [Bool.and_eq_true, decide_eq_true_eq] at hle
    unfold denF at h
    split at h
    · rename_i hlen
      simp only [Option.bind_eq_some_iff, Prod.exists] at h
      obtain ⟨x, s, h1, h⟩ := h
      obtain ⟨⟨hn, hw⟩, hr⟩ := code_sound hΦ hm code ks r cc hcc h1
      have h2 : (runDfs Ψ s.ds s.H).bind (fun H' => (resA s.tm H' res).map fun l => (tupA l, H')) = some (v, H') ∧ ∀ id, x ≠ .exit id := by
        cases x with
        | normal => exact ⟨h, by simp⟩
        | ret => exact ⟨h, by simp⟩
        | exit id => simp at h
      obtain ⟨h2, hx⟩ := h2
      simp only [Option.bind_eq_some_iff, Option.map_eq_some_iff, Prod.mk.injEq] at h2
      obtain ⟨H1, hd, l, hl, rfl, rfl⟩ := h2
      obtain ⟨hn2, hw2⟩ := runDfs_n hΨ hd
      refine ⟨hcal, Nat.le_trans hn hn2, fun k => hw2 (hw k), fun E w as k has R hF => ?_⟩
      refine calls_of_wp_defers hf hb ?_
      refine hr (start_rel has (by simp only [] at hlen; omega) k R) (hF.left hn2) fun E' a' w' X S' => ?_
      have : Leaves P fn a'.tmps (fun e w' => ∃ E' x, e = .returned x ∧ cv E' (tupA l) = some x ∧ Rel E' H1 w' ∧ Ext E H w E' H1 w') a'.defers .returning w' := by
        refine leaves_sound hΨ hd S'.wf S'.D S'.R (hF.right X) fun E'' w'' X' R' => ?_
        obtain ⟨y, hy, hyv⟩ := results_ok R' (S'.T.mono X'.le) hres hl
        exact ⟨y, hy, E'', y, rfl, hyv, R', X.trans X'⟩
      cases x with
      | normal => exact this
      | ret => exact this
      | exit id => exact absurd rfl (hx id)
    · simp at h
  · simp at hc

def none2 : Phi := fun _ _ _ => none
theorem none_sound (f : FuncId) : Sound P f (none2 f) := fun args H v H' h => by simp [none2] at h
theorem none_soundD (f : FuncId) : SoundD P f (none2 f) := fun args H v H' h => by simp [none2] at h

theorem fun_soundD {Φ : Phi} (hΦ : ∀ f, Sound P f (Φ f)) (hm : P.follows .mixedOrders = true) {f : FuncId} {fn : Func} (hf : P.funcs[f]? = some fn) (hcal : callable P f = true) {ks : List (List Nat)} {c : CFunc} (hc : compFunc P fn ks = some c) :
    SoundD P f (denF Φ none2 c) := by
  intro args H v H' h
  simp only [compFunc, Option.bind_eq_some_iff] at hc
  obtain ⟨code, hb, ⟨cc, r⟩, hcc, res, hres, hc⟩ := hc
  split at hc
  · rename_i hle
    simp only [Option.some.injEq] at hc; subst hc
    simp only [Bool.and_eq_true, decide_eq_true_eq] at hle
    unfold denF at h
    split at h
    · rename_i hlen
      simp only [Option.bind_eq_some_iff, Prod.exists] at h
      obtain ⟨x, s, h1, h⟩ := h
      obtain ⟨⟨hn, hw⟩, hr⟩ := code_sound hΦ hm code ks r cc hcc h1
      have h2 : (runDfs none2 s.ds s.H).bind (fun H' => (resA s.tm H' res).map fun l => (tupA l, H')) = some (v, H') ∧ ∀ id, x ≠ .exit id := by
        cases x with
        | normal => exact ⟨h, by simp⟩
        | ret => exact ⟨h, by simp⟩
        | exit id => simp at h
      obtain ⟨h2, hx⟩ := h2
      simp only [Option.bind_eq_some_iff, Option.map_eq_some_iff, Prod.mk.injEq] at h2
      obtain ⟨H1, hd, l, hl, rfl, rfl⟩ := h2
      have hds : s.ds = [] := by
        cases hs : s.ds with
        | nil => rfl
        | cons d ds =>
          rw [hs] at hd
          obtain ⟨q, qs⟩ := d
          simp only [runDfs, callVal, none2, Option.bind_eq_some_iff] at hd
          obtain ⟨_, h3, _⟩ := hd
          split at h3 <;> simp at h3
      rw [hds] at hd
      simp only [runDfs, Option.some.injEq] at hd; subst hd
      refine ⟨hcal, hn, hw, fun E w as u k has R hF => ?_⟩
      refine callsD_of_wp hf hb ?_
      refine hr (start_rel has (by simp only [] at hlen; omega) k R) hF fun E' a' w' X S' => ?_
      obtain ⟨y, hy, hyv⟩ := results_ok S'.R S'.T hres hl
      have hD := S'.D
      rw [hds] at hD
      have hdn : a'.defers = [] := by
        cases hq : a'.defers with
        | nil => rfl
        | cons d ds => rw [hq] at hD; exact hD.elim
      cases x with
      | normal => exact ⟨hdn, y, hy, E', y, rfl, hyv, S'.R, X⟩
      | ret => exact ⟨hdn, y, hy, E', y, rfl, hyv, S'.R, X⟩
      | exit id => exact absurd rfl (hx id)
    · simp at h
  · simp at hc
end Go.Eng

/- The engine, sixteenth part: regions in the order of their text. -/
import Derived.Test.YtgmaknppneonfaaEngO
set_option linter.unusedSimpArgs false
set_option linter.unusedVariables false
namespace Go.Eng
variable {P : Program}

theorem stuck_none {Φ : Phi} (s : ASt) : aop Φ stuckOp s = none := rfl
theorem compOp_of {Φ : Phi} {o : Op} {c : COp} (h : compOpS P o = some c) {s : ASt} {r : AVal × AHeap × Dfs × Ev} (ha : aop Φ c s = some r) : compOp P o = some c := by
  unfold compOpS at h
  split at h
  · rename_i e; rw [e, ← Option.some.inj h]
  · simp only [Option.some.injEq] at h; subst h; rw [stuck_none] at ha; simp at ha
theorem comp_oper {nt : Nat} {ops : Array Oper} {o : Oper} {co : COper} (h : compOper P nt ops o = some co) :
    compOpS P o.op = some co.op ∧ co.dst = o.dst ∧ (∀ d, o.dst = some d → d < nt) ∧ ((o.guard = none ∧ co.guard = none) ∨ ∃ j b s, o.guard = some (j, b) ∧ (ops[j]?).bind (·.dst) = some s ∧ co.guard = some (s, b)) := by
  unfold compOper at h
  by_cases hd : dstOk nt o.dst = false
  · rw [if_pos hd] at h; simp at h
  · rw [if_neg hd] at h
    have hd' : ∀ d, o.dst = some d → d < nt := by
      intro d e
      rw [e] at hd
      simpa [dstOk] using hd
    simp only [Option.bind_eq_some_iff] at h
    obtain ⟨c, hc, h⟩ := h
    cases hg : o.guard with
    | none => rw [hg] at h; simp only [Option.some.injEq] at h; subst h; exact ⟨hc, rfl, hd', .inl ⟨rfl, rfl⟩⟩
    | some p =>
      obtain ⟨j, b⟩ := p
      rw [hg] at h
      simp only [Option.map_eq_some_iff] at h
      obtain ⟨s, hs, rfl⟩ := h
      exact ⟨hc, rfl, hd', .inr ⟨j, b, s, rfl, hs, rfl⟩⟩
theorem wanted_sound {nt : Nat} {ops : Array Oper} {o : Oper} {co : COper} (h : compOper P nt ops o = some co) {E : Env} {τ : Tm} {tm : Array Value} (T : TRel E τ tm) {b : Bool} (hw : wantedA τ co.guard = some b) : Region.wanted o (yielded ops tm) = b := by
  obtain ⟨_, _, _, hg⟩ := comp_oper h
  unfold Region.wanted
  rcases hg with ⟨h1, h2⟩ | ⟨j, c, s, h1, h2, h3⟩
  · rw [h2] at hw
    simp only [wantedA, Option.some.injEq] at hw
    rw [h1]; exact hw
  · rw [h3] at hw
    rw [h1]
    simp only [wantedA] at hw
    have hy : yielded ops tm j = match tm[s]? with | some (.bool b) => some b | _ => none := by
      unfold yielded
      rw [h2]; rfl
    cases hl : lk τ s with
    | none => rw [hl] at hw; simp at hw
    | some v =>
      obtain ⟨x, hx, hc⟩ := T s v hl
      rw [hl] at hw
      cases v with
      | bool d =>
        simp only [Option.some.injEq] at hw
        simp only [cv, Option.some.injEq] at hc; subst hc
        simp only [hy, hx]
        rw [← hw]
        cases d <;> cases c <;> rfl
      | tup l =>
        cases l with
        | nil =>
          simp only [Option.some.injEq] at hw
          simp only [cv, cvs, Option.map_some, Option.some.injEq] at hc; subst hc
          simp only [hy, hx]
          rw [← hw]; rfl
        | cons _ _ => simp at hw
      | _ => simp at hw

theorem tm_put {E : Env} {τ : Tm} {a a' : Act} {nt : Nat} (T : TRel E τ a.tmps) (hn : a.tmps.size = nt) {dst : Option Nat} (hd : ∀ d, dst = some d → d < nt) {v : AVal} {x : Value} (hv : cv E v = some x) (he : a'.tmps = (a.put dst x).tmps) : TRel E (put dst v τ) a'.tmps ∧ a'.tmps.size = nt := by
  rw [he]
  exact ⟨T.put dst (by rw [hn]; exact hd) hv, by rw [act_put_size, hn]⟩

theorem axo_n {Φ : Phi} (hΦ : ∀ f, Sound P f (Φ f)) {τ : Tm} {H H' : AHeap} {ds ds' : Dfs} {c : XOp} {v : AVal} (h : axo Φ τ H ds c = some (v, H', ds')) : H.n ≤ H'.n ∧ (H.wf → H'.wf) := by
  cases c with
  | callF f l =>
    simp only [axo, Option.bind_eq_some_iff, Option.map_eq_some_iff, Prod.exists, Prod.mk.injEq] at h
    obtain ⟨_, _, _, _, hg, rfl, rfl, rfl⟩ := h
    exact ⟨(hΦ _ _ _ _ _ hg).2.1, (hΦ _ _ _ _ _ hg).2.2.1⟩
  | callV x l =>
    simp only [axo, Option.bind_eq_some_iff, Option.map_eq_some_iff, Prod.exists, Prod.mk.injEq] at h
    obtain ⟨_, _, _, _, _, _, hg, rfl, rfl, rfl⟩ := h
    unfold callVal at hg
    split at hg
    · exact ⟨(hΦ _ _ _ _ _ hg).2.1, (hΦ _ _ _ _ _ hg).2.2.1⟩
    · simp at hg
  | deferV x l =>
    simp only [axo, Option.bind_eq_some_iff] at h
    obtain ⟨_, _, _, _, h⟩ := h
    split at h
    · simp only [Option.some.injEq, Prod.mk.injEq] at h; obtain ⟨rfl, rfl, rfl⟩ := h; exact ⟨Nat.le_refl _, id⟩
    · simp at h
  | callM x n l => simp [axo] at h
  | store n x y =>
    simp only [axo] at h
    split at h
    · simp only [Option.bind_eq_some_iff] at h
      obtain ⟨u, hu, h⟩ := h
      split at h
      · simp only [Option.map_eq_some_iff, Prod.mk.injEq] at h
        obtain ⟨H2, hst, rfl, rfl, rfl⟩ := h
        exact ⟨by rw [store_n hst]; exact Nat.le_refl _, store_wf hst⟩
      · simp at h
    · simp at h
  | mapSet k x i y =>
    simp only [axo, Option.bind_eq_some_iff] at h
    obtain ⟨_, _, _, _, h⟩ := h
    split at h
    · split at h
      · rename_i hb
        simp only [Option.map_eq_some_iff, Prod.mk.injEq] at h
        obtain ⟨_, _, rfl, rfl, rfl⟩ := h
        exact ⟨by simp, fun k => k.set (.inl (by rw [hb]; rfl))⟩
      · simp at h
    · simp at h
  | mapDel k x i =>
    simp only [axo, Option.bind_eq_some_iff] at h
    obtain ⟨_, _, h⟩ := h
    split at h
    · split at h
      · rename_i hb
        simp only [Option.map_eq_some_iff, Prod.mk.injEq] at h
        obtain ⟨_, _, rfl, rfl, rfl⟩ := h
        exact ⟨by simp, fun k => k.set (.inl (by rw [hb]; rfl))⟩
      · simp at h
    · simp at h
  | append e es by_ x y =>
    simp only [axo, Option.bind_eq_some_iff, Option.map_eq_some_iff, Prod.exists, Prod.mk.injEq] at h
    obtain ⟨_, _, _, _, _, _, h, rfl, rfl, rfl⟩ := h
    exact ⟨append_n h, append_wf h⟩
  | copy es x y =>
    simp only [axo, Option.bind_eq_some_iff, Option.map_eq_some_iff, Prod.exists, Prod.mk.injEq] at h
    obtain ⟨_, _, _, _, _, _, h, rfl, rfl, rfl⟩ := h
    exact ⟨copy_n h, copy_wf h⟩
  | clearS z x =>
    simp only [axo] at h
    split at h
    · simp only [Option.some.injEq, Prod.mk.injEq] at h; obtain ⟨rfl, rfl, rfl⟩ := h; exact ⟨Nat.le_refl _, id⟩
    · simp only [Option.some.injEq, Prod.mk.injEq] at h; obtain ⟨rfl, rfl, rfl⟩ := h; exact ⟨Nat.le_refl _, id⟩
    · simp only [Option.map_eq_some_iff, Prod.mk.injEq] at h
      obtain ⟨H2, hst, rfl, rfl, rfl⟩ := h
      exact ⟨by rw [store_n hst]; exact Nat.le_refl _, store_wf hst⟩
    · simp at h
/-- What an operation does to the heap, by what it tells. -/
theorem aop_n {Φ : Phi} (hΦ : ∀ f, Sound P f (Φ f)) {s : ASt} {c : COp} {v : AVal} {H' : AHeap} {ds' : Dfs} {e : Ev} (h : aop Φ c s = some (v, H', ds', e)) : s.H.n ≤ H'.n ∧ (s.H.wf → H'.wf) := by
  cases c with
  | p c => simp only [aop, Option.map_eq_some_iff, Prod.mk.injEq] at h; obtain ⟨_, _, rfl, rfl, rfl, rfl⟩ := h; exact ⟨Nat.le_refl _, id⟩
  | r c =>
    simp only [aop] at h
    split at h
    · simp only [Option.map_eq_some_iff, Prod.mk.injEq] at h; obtain ⟨_, _, rfl, rfl, rfl, rfl⟩ := h; exact ⟨Nat.le_refl _, id⟩
    · simp only [Option.map_eq_some_iff, Prod.mk.injEq] at h; obtain ⟨_, _, rfl, rfl, rfl, rfl⟩ := h; exact ⟨Nat.le_refl _, id⟩
    · simp at h
  | a c => simp only [aop, Option.map_eq_some_iff, Prod.exists, Prod.mk.injEq] at h; obtain ⟨_, _, _, rfl, rfl, rfl, rfl⟩ := h; exact ⟨by simp, fun k => k.push _⟩
  | x c => simp only [aop, Option.map_eq_some_iff, Prod.exists, Prod.mk.injEq] at h; obtain ⟨_, _, _, ha, rfl, rfl, rfl, rfl⟩ := h; exact axo_n hΦ ha

/-- One operation in its place: done, or passed by. -/
theorem astep_sound {Φ : Phi} (hΦ : ∀ f, Sound P f (Φ f)) {nt : Nat} {ops : Array Oper} {o : Oper} {co : COper} (hc : compOper P nt ops o = some co) {E : Env} {s s' : ASt} {a : Act} {w : World} (S : SRel E s a w nt) {e : Ev} (h : astep Φ co s = some (s', e)) :
    s.H.n ≤ s'.H.n ∧ ∀ {K : Act → World → Prop} {Q : Exit → Act → World → Prop}, Fresh E s.H.n s'.H.n → (∀ E' a' w', Ext E s.H w E' s'.H w' → SRel E' s' a' w' nt → K a' w') →
      (if Region.wanted o (yielded ops a.tmps) then o.wp P a w K Q ∨ (o.asks P a w ∧ LetsOut Q) else K (a.put o.dst undef) w) := by
  obtain ⟨hop, hdst, hlt, _⟩ := comp_oper hc
  unfold astep at h
  split at h
  · rename_i hw
    have hwant := wanted_sound hc S.T hw
    simp only [Option.map_eq_some_iff, Prod.exists, Prod.mk.injEq] at h
    obtain ⟨v, H', ds', ev', ha, rfl, rfl⟩ := h
    obtain ⟨hn, hs⟩ := aop_step hΦ S (compOp_of hop ha) ha
    refine ⟨hn, fun hF hK => ?_⟩
    rw [if_pos hwant]
    refine .inl (hs hF fun E' a' w' x X R' hx he hD => hK E' a' w' X ?_)
    obtain ⟨h1, h2⟩ := tm_put (S.T.mono X.le) S.nt hlt hx he
    rw [hdst]
    exact ⟨(aop_n hΦ ha).2 S.wf, h1, hD, R', h2⟩
  · rename_i hw
    have hwant := wanted_sound hc S.T hw
    simp only [Option.some.injEq, Prod.mk.injEq] at h
    obtain ⟨rfl, rfl⟩ := h
    refine ⟨Nat.le_refl _, fun hF hK => ?_⟩
    rw [if_neg (by simp [hwant])]
    refine hK E _ w (Ext.refl _ _ _) ?_
    obtain ⟨h1, h2⟩ := tm_put (v := undefA) (x := undef) S.T S.nt hlt rfl rfl
    rw [hdst]
    exact ⟨S.wf, h1, by rw [act_put_defers]; exact S.D, S.R, h2⟩
  · simp at h

theorem arun_sound {Φ : Phi} (hΦ : ∀ f, Sound P f (Φ f)) {nt : Nat} {ops : Array Oper} {Q : Exit → Act → World → Prop} : ∀ (l : List Oper) (cl : List COper) (i : Nat), (∀ j, ops[i + j]? = l[j]?) → l.mapM (compOper P nt ops) = some cl →
    ∀ {s s' : ASt}, arun Φ cl s = some s' → s.H.n ≤ s'.H.n ∧ ∀ {E : Env} {a : Act} {w : World}, SRel E s a w nt → Fresh E s.H.n s'.H.n → (∀ E' a' w', Ext E s.H w E' s'.H w' → SRel E' s' a' w' nt → Q .normal a' w') → wpOps P ops Q (List.range' i l.length) a w
  | [], cl, i, hi, hc, s, s', h => by
    simp at hc; subst hc
    simp only [arun, Option.some.injEq] at h; subst h
    exact ⟨Nat.le_refl _, fun S hF hQ => by simpa [wpOps] using hQ _ _ _ (Ext.refl _ _ _) S⟩
  | o :: l, cl, i, hi, hc, s, s', h => by
    simp only [List.mapM_cons, Option.pure_def, Option.bind_eq_bind, Option.bind_eq_some_iff, Option.some.injEq] at hc
    obtain ⟨co, hco, cr, hcr, rfl⟩ := hc
    simp only [arun, Option.bind_eq_some_iff, Prod.exists] at h
    obtain ⟨s1, ev', hs, hr⟩ := h
    have ih := arun_sound hΦ (Q := Q) l cr (i + 1) (fun j => by have := hi (j + 1); rw [show i + 1 + j = i + (j + 1) by omega, this]; rfl) hcr hr
    have hn1 : s.H.n ≤ s1.H.n := by
      unfold astep at hs
      split at hs
      · simp only [Option.map_eq_some_iff, Prod.exists, Prod.mk.injEq] at hs
        obtain ⟨v, H', ds', e1, ha, rfl, rfl⟩ := hs
        exact (aop_n hΦ ha).1
      · simp only [Option.some.injEq, Prod.mk.injEq] at hs; obtain ⟨rfl, rfl⟩ := hs; exact Nat.le_refl _
      · simp at hs
    refine ⟨Nat.le_trans hn1 ih.1, fun {E a w} S hF hQ => ?_⟩
    have ho : ops[i]? = some o := by have := hi 0; simpa using this
    simp only [List.length_cons, List.range'_succ, wpOps, ho]
    obtain ⟨_, hstep⟩ := astep_sound hΦ hco S hs
    refine hstep (hF.left ih.1) fun E' a' w' X S' => ?_
    exact ih.2 S' (hF.right X) fun E'' a'' w'' X' S'' => hQ E'' a'' w'' (X.trans X') S''

theorem restrict_lk (keep : List Nat) (τ : Tm) {i : Nat} {v : AVal} (h : lk (restrict keep τ) i = some v) : lk τ i = some v := by
  unfold restrict at h
  induction keep with
  | nil => simp [lk] at h
  | cons k keep ih =>
    cases hk : lk τ k with
    | none => simp only [List.filterMap_cons, hk, Option.map_none] at h; exact ih h
    | some u =>
      simp only [List.filterMap_cons, hk, Option.map_some, lk] at h
      by_cases e : Nat.beq i k = true
      · rw [if_pos e] at h
        have := Nat.eq_of_beq_eq_true e
        subst this
        rw [hk]; exact h
      · rw [if_neg e] at h; exact ih h
theorem SRel.restrict {E : Env} {s : ASt} {a : Act} {w : World} {nt : Nat} (S : SRel E s a w nt) (keep : List Nat) : SRel E { s with tm := Eng.restrict keep s.tm } a w nt :=
  ⟨S.wf, fun i v h => S.T i v (restrict_lk keep s.tm h), S.D, S.R, S.nt⟩
end Go.Eng

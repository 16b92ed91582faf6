/- The engine, fifteenth part: operations one behind the other, calls among them. -/
import Derived.Test.YtgmaknppneonfaaEngN
import Derived.Defers
set_option linter.unusedSimpArgs false
set_option linter.unusedVariables false
namespace Go.Eng
variable {P : Program}

/-- What a Lean function says of a Go function. -/
def Sound (P : Program) (f : FuncId) (φ : List AVal → AHeap → Option (AVal × AHeap)) : Prop :=
  ∀ args H v H', φ args H = some (v, H') → callable P f = true ∧ H.n ≤ H'.n ∧ (H.wf → H'.wf) ∧ ∀ E w as, H.wf → cvs E args = some as → Rel E H w → Fresh E H.n H'.n →
    Calls P f as.toArray w fun e w' => ∃ E' x, e = .returned x ∧ cv E' v = some x ∧ Rel E' H' w' ∧ Ext E H w E' H' w'
/-- The same of a function whose call is deferred. -/
def SoundD (P : Program) (f : FuncId) (φ : List AVal → AHeap → Option (AVal × AHeap)) : Prop :=
  ∀ args H v H', φ args H = some (v, H') → callable P f = true ∧ H.n ≤ H'.n ∧ (H.wf → H'.wf) ∧ ∀ E w as u, H.wf → cvs E args = some as → Rel E H w → Fresh E H.n H'.n →
    CallsD P f as.toArray u w fun e u' w' => u' = u ∧ ∃ E' x, e = .returned x ∧ cv E' v = some x ∧ Rel E' H' w' ∧ Ext E H w E' H' w'

def DRel (E : Env) : Dfs → List Deferred → Prop
  | [], [] => True
  | (f, args) :: ds, D :: Ds => (∃ g first cap fv pv av, f = .fn (.func g) first cap ∧ cvs E first = some fv ∧ cvs E cap = some pv ∧ cvs E args = some av ∧ D = { target := .fn (.func g) pv.toArray, args := (fv ++ av).toArray }) ∧ DRel E ds Ds
  | _, _ => False
theorem DRel.mono {E E' : Env} (h : E.le E') : ∀ {ds : Dfs} {Ds : List Deferred}, DRel E ds Ds → DRel E' ds Ds
  | [], [], _ => trivial
  | (f, args) :: ds, D :: Ds, ⟨⟨g, first, cap, fv, pv, av, h1, h2, h3, h4, h5⟩, hr⟩ => ⟨⟨g, first, cap, fv, pv, av, h1, cvs_mono h _ _ h2, cvs_mono h _ _ h3, cvs_mono h _ _ h4, h5⟩, hr.mono h⟩
  | [], _ :: _, h => h.elim
  | _ :: _, [], h => h.elim

theorem callFunc_run {f : FuncId} (h : callable P f = true) (args : Array Value) (w : World) : (callFunc f args).run P w = .ok (.enter f args) w := by
  unfold callable at h
  cases hf : P.funcs[f]? with
  | none => simp [hf] at h
  | some fn =>
    rw [hf] at h
    simp only [Bool.and_eq_true, bne_iff_ne, ne_eq] at h
    have h1 : fn.body.isNone = false := by cases hb : fn.body <;> simp_all
    have h2 : (fn.name == "runtime.NumGoroutine") = false := by simpa using h.2
    simp only [callFunc, Sem.run_bind, run_program, Result.andThen_ok, hf, h2, Bool.false_eq_true, if_false, h1, Sem.run_pure]

structure SRel (E : Env) (s : ASt) (a : Act) (w : World) (nt : Nat) : Prop where
  wf : s.H.wf
  T : TRel E s.tm a.tmps
  D : DRel E s.ds a.defers
  R : Rel E s.H w
  nt : a.tmps.size = nt
theorem act_put_defers (a : Act) (d : Option Tmp) (v : Value) : (a.put d v).defers = a.defers := by cases d <;> rfl
theorem act_put_size (a : Act) (d : Option Tmp) (v : Value) : (a.put d v).tmps.size = a.tmps.size := by cases d <;> simp [Act.put]
theorem act_put_with (a : Act) (d : Option Tmp) (v : Value) (D : List Deferred) : ({ a with defers := D }.put d v).tmps = (a.put d v).tmps := by cases d <;> rfl

theorem store_n {H H' : AHeap} {b o : Nat} {vs : List AVal} (h : H.store b o vs = some H') : H'.n = H.n := by
  unfold AHeap.store at h
  split at h
  · split at h
    · simp only [Option.some.injEq] at h; subst h; rfl
    · simp at h
  · simp at h
theorem append_n {H H' : AHeap} {e : TypeId} {es by_ : Nat} {x y v : AVal} (h : appendA H e es by_ x y = some (v, H')) : H.n ≤ H'.n := by
  simp only [appendA, Option.bind_eq_some_iff] at h
  obtain ⟨n, hn, new, hnew, h⟩ := h
  split at h
  · split at h
    · split at h
      · simp only [Option.some.injEq, Prod.mk.injEq] at h; obtain ⟨rfl, rfl⟩ := h; exact Nat.le_refl _
      · split at h
        · simp only [Option.some.injEq, Prod.mk.injEq] at h; obtain ⟨rfl, rfl⟩ := h; simp
        · simp at h
    · split at h
      · split at h
        · split at h
          · simp only [Option.some.injEq, Prod.mk.injEq] at h; obtain ⟨rfl, rfl⟩ := h; exact Nat.le_refl _
          · simp only [Option.map_eq_some_iff, Prod.mk.injEq] at h
            obtain ⟨H2, hst, rfl, rfl⟩ := h
            rw [store_n hst]; exact Nat.le_refl _
        · split at h
          · split at h
            · simp only [Option.some.injEq, Prod.mk.injEq] at h; obtain ⟨rfl, rfl⟩ := h; simp
            · split at h
              · simp only [Option.some.injEq, Prod.mk.injEq] at h; obtain ⟨rfl, rfl⟩ := h; simp
              · simp at h
            · simp at h
          · simp at h
      · simp at h
    · simp at h
  · simp at h
theorem copy_n {H H' : AHeap} {es : Nat} {x y v : AVal} (h : copyA H es x y = some (v, H')) : H.n ≤ H'.n := by
  simp only [copyA, Option.bind_eq_some_iff] at h
  obtain ⟨d, hd, n, hn, new, hnew, h⟩ := h
  split at h
  · split at h
    · simp only [Option.map_eq_some_iff, Prod.mk.injEq] at h
      obtain ⟨H2, hst, rfl, rfl⟩ := h
      rw [store_n hst]; exact Nat.le_refl _
    · simp only [Option.some.injEq, Prod.mk.injEq] at h; obtain ⟨rfl, rfl⟩ := h; exact Nat.le_refl _
    · simp at h
  · simp at h
theorem store_wf {H H' : AHeap} {b o : Nat} {vs : List AVal} (h : H.store b o vs = some H') (k : H.wf) : H'.wf := by
  unfold AHeap.store at h
  split at h
  · rename_i hb
    split at h
    · simp only [Option.some.injEq] at h; subst h; exact k.set (.inl (by rw [hb]; rfl))
    · simp at h
  · simp at h
theorem append_wf {H H' : AHeap} {e : TypeId} {es by_ : Nat} {x y v : AVal} (h : appendA H e es by_ x y = some (v, H')) (k : H.wf) : H'.wf := by
  simp only [appendA, Option.bind_eq_some_iff] at h
  obtain ⟨n, hn, new, hnew, h⟩ := h
  split at h
  · split at h
    · split at h
      · simp only [Option.some.injEq, Prod.mk.injEq] at h; obtain ⟨rfl, rfl⟩ := h; exact k
      · split at h
        · simp only [Option.some.injEq, Prod.mk.injEq] at h; obtain ⟨rfl, rfl⟩ := h; exact k.push _
        · simp at h
    · split at h
      · split at h
        · split at h
          · simp only [Option.some.injEq, Prod.mk.injEq] at h; obtain ⟨rfl, rfl⟩ := h; exact k
          · simp only [Option.map_eq_some_iff, Prod.mk.injEq] at h
            obtain ⟨H2, hst, rfl, rfl⟩ := h
            exact store_wf hst k
        · split at h
          · split at h
            · simp only [Option.some.injEq, Prod.mk.injEq] at h; obtain ⟨rfl, rfl⟩ := h; exact k.push _
            · split at h
              · simp only [Option.some.injEq, Prod.mk.injEq] at h; obtain ⟨rfl, rfl⟩ := h; exact (k.set (.inr rfl)).push _
              · simp at h
            · simp at h
          · simp at h
      · simp at h
    · simp at h
  · simp at h
theorem copy_wf {H H' : AHeap} {es : Nat} {x y v : AVal} (h : copyA H es x y = some (v, H')) (k : H.wf) : H'.wf := by
  simp only [copyA, Option.bind_eq_some_iff] at h
  obtain ⟨d, hd, n, hn, new, hnew, h⟩ := h
  split at h
  · split at h
    · simp only [Option.map_eq_some_iff, Prod.mk.injEq] at h
      obtain ⟨H2, hst, rfl, rfl⟩ := h
      exact store_wf hst k
    · simp only [Option.some.injEq, Prod.mk.injEq] at h; obtain ⟨rfl, rfl⟩ := h; exact k
    · simp at h
  · simp at h
theorem builtin_notCall {b : Builtin} {ts : Array TypeId} {l : List Opd} {c : XOp} (h : compBuiltin P b ts l = some (.x c)) : (∀ f l, c ≠ .callF f l) ∧ (∀ f l, c ≠ .callV f l) ∧ ∀ f l, c ≠ .deferV f l := by
  unfold compBuiltin at h
  split at h
  all_goals
    first
      | (simp at h; done)
      | (simp only [Option.bind_eq_some_iff] at h
         obtain ⟨t, ht, h⟩ := h
         try (obtain ⟨u, hu, h⟩ := h)
         (repeat' split at h) <;> simp only [Option.bind_eq_some_iff, Option.map_eq_some_iff, reduceCtorEq, Option.some.injEq, COp.x.injEq, and_false, exists_false] at h <;> (try (obtain ⟨_, _, h⟩ := h)) <;> (try (obtain ⟨_, _, h⟩ := h)) <;> (try (obtain ⟨_, _, h⟩ := h)) <;> (try (split at h)) <;> (try simp only [Option.some.injEq, COp.x.injEq, reduceCtorEq] at h) <;> (try subst h) <;> exact ⟨by simp, by simp, by simp⟩)
theorem comp_inv {op : Op} {c : XOp} (hc : compOp P op = some (.x c)) :
    (∀ f l, c = .callF f l → ∃ cl, op = .call cl ∧ cl.callee = .value (.func f) ∧ compOpds cl.args.toList = some l) ∧
    (∀ x l, c = .callV x l → ∃ cl y, op = .call cl ∧ cl.callee = .value y ∧ compOpd y = some x ∧ compOpds cl.args.toList = some l) ∧
    ∀ x l, c = .deferV x l → ∃ cl y, op = .defer cl ∧ cl.callee = .value y ∧ compOpd y = some x ∧ compOpds cl.args.toList = some l := by
  cases op with
  | call cl =>
    obtain ⟨callee, args, argTypes⟩ := cl
    simp only [compOp, Option.bind_eq_some_iff] at hc
    obtain ⟨l', hl, hc⟩ := hc
    cases callee with
    | value x =>
      cases x with
      | func g =>
        simp only [] at hc
        split at hc
        · simp only [Option.some.injEq, COp.x.injEq] at hc; subst hc
          exact ⟨fun f l h => by simp only [XOp.callF.injEq] at h; obtain ⟨rfl, rfl⟩ := h; exact ⟨_, rfl, rfl, hl⟩, by simp, by simp⟩
        · simp at hc
      | tmp t =>
        simp only [Option.map_eq_some_iff, COp.x.injEq] at hc
        obtain ⟨x', hx, rfl⟩ := hc
        exact ⟨by simp, fun x l h => by simp only [XOp.callV.injEq] at h; obtain ⟨rfl, rfl⟩ := h; exact ⟨_, _, rfl, rfl, hx, hl⟩, by simp⟩
      | const t =>
        simp only [Option.map_eq_some_iff, COp.x.injEq] at hc
        obtain ⟨x', hx, rfl⟩ := hc
        exact ⟨by simp, fun x l h => by simp only [XOp.callV.injEq] at h; obtain ⟨rfl, rfl⟩ := h; exact ⟨_, _, rfl, rfl, hx, hl⟩, by simp⟩
      | global t =>
        simp only [Option.map_eq_some_iff, COp.x.injEq] at hc
        obtain ⟨x', hx, rfl⟩ := hc
        exact ⟨by simp, fun x l h => by simp only [XOp.callV.injEq] at h; obtain ⟨rfl, rfl⟩ := h; exact ⟨_, _, rfl, rfl, hx, hl⟩, by simp⟩
    | invoke x n =>
      simp only [Option.map_eq_some_iff, COp.x.injEq] at hc
      obtain ⟨x', hx, rfl⟩ := hc
      exact ⟨by simp, by simp, by simp⟩
    | builtin b =>
      obtain ⟨h1, h2, h3⟩ := builtin_notCall hc
      exact ⟨fun f l h => absurd h (h1 f l), fun f l h => absurd h (h2 f l), fun f l h => absurd h (h3 f l)⟩
  | defer cl =>
    obtain ⟨callee, args, argTypes⟩ := cl
    simp only [compOp, Option.bind_eq_some_iff] at hc
    obtain ⟨l', hl, hc⟩ := hc
    cases callee with
    | value x =>
      simp only [Option.map_eq_some_iff, COp.x.injEq] at hc
      obtain ⟨x', hx, rfl⟩ := hc
      exact ⟨by simp, by simp, fun x l h => by simp only [XOp.deferV.injEq] at h; obtain ⟨rfl, rfl⟩ := h; exact ⟨_, _, rfl, rfl, hx, hl⟩⟩
    | _ => simp at hc
  | store t x y =>
    simp only [compOp, Option.bind_eq_some_iff, Option.map_eq_some_iff, COp.x.injEq] at hc
    obtain ⟨_, _, _, _, _, _, rfl⟩ := hc
    exact ⟨by simp, by simp, by simp⟩
  | insert t m k y | mapUpdate t m k y =>
    simp only [compOp] at hc
    split at hc
    · simp only [Option.bind_eq_some_iff, Option.map_eq_some_iff, COp.x.injEq] at hc
      obtain ⟨_, _, _, _, _, _, _, _, rfl⟩ := hc
      exact ⟨by simp, by simp, by simp⟩
    · simp at hc
  | binOp op t x y ty' =>
    simp only [compOp, Option.bind_eq_some_iff] at hc
    obtain ⟨_, _, _, _, hc⟩ := hc
    split at hc
    · simp only [compEq] at hc; split at hc <;> simp at hc
    · simp only [compEq] at hc; split at hc <;> simp at hc
    · simp at hc
  | convert s d x =>
    simp only [compOp, Option.bind_eq_some_iff] at hc
    obtain ⟨x', hx, hc⟩ := hc
    (repeat' split at hc) <;> simp at hc
  | build t ps => simp only [compOp] at hc; (repeat' split at hc) <;> simp [Option.bind_eq_some_iff] at hc
  | pick x y z => simp [compOp, Option.bind_eq_some_iff] at hc
  | makeFunc _ _ _ => simp [compOp, Option.bind_eq_some_iff] at hc
  | makeInterface _ _ => simp only [compOp] at hc; split at hc <;> simp at hc
  | fieldAddr _ _ _ => simp only [compOp] at hc; split at hc <;> simp only [Option.bind_eq_some_iff, reduceCtorEq] at hc; obtain ⟨_, _, _, _, hc⟩ := hc; split at hc <;> simp at hc
  | field _ _ _ => simp only [compOp] at hc; split at hc <;> simp [Option.bind_eq_some_iff] at hc
  | indexAddr _ _ _ => simp only [compOp, Option.bind_eq_some_iff] at hc; obtain ⟨_, _, _, _, hc⟩ := hc; split at hc <;> simp at hc
  | index _ _ _ => simp only [compOp, Option.bind_eq_some_iff] at hc; obtain ⟨_, _, _, _, hc⟩ := hc; split at hc <;> simp [Option.bind_eq_some_iff] at hc
  | lookup _ _ _ _ => simp only [compOp] at hc; split at hc <;> simp [Option.bind_eq_some_iff] at hc
  | load t x => simp only [compOp, Option.bind_eq_some_iff] at hc; obtain ⟨_, _, hc⟩ := hc; (repeat' split at hc) <;> simp at hc
  | slice t x lo hi mx =>
    cases mx with
    | some m =>
      cases hi with
      | none => simp [compOp] at hc
      | some hi =>
        simp only [compOp, Option.bind_eq_some_iff] at hc
        obtain ⟨_, _, _, _, _, _, _, _, hc⟩ := hc
        split at hc
        · simp only [Option.map_eq_some_iff] at hc; obtain ⟨_, _, hc⟩ := hc; simp at hc
        · simp at hc
    | none =>
      simp only [compOp, Option.bind_eq_some_iff] at hc
      obtain ⟨_, _, _, _, _, _, hc⟩ := hc
      split at hc <;> simp at hc
  | alloc t => simp [compOp] at hc
  | box t x => simp [compOp, Option.bind_eq_some_iff] at hc
  | buildSlice t n ps =>
    simp only [compOp] at hc
    split at hc
    · simp only [Option.bind_eq_some_iff] at hc
      obtain ⟨_, _, _, _, hc⟩ := hc
      split at hc <;> simp at hc
    · simp at hc
  | makeMap t r => simp only [compOp] at hc; split at hc <;> simp at hc
  | makeSlice _ _ _ => simp only [compOp] at hc; split at hc <;> simp [Option.bind_eq_some_iff] at hc
  | _ => simp [compOp] at hc

/-- One operation. -/
theorem aop_step {Φ : Phi} (hΦ : ∀ f, Sound P f (Φ f)) {E : Env} {s : ASt} {a : Act} {w : World} {nt : Nat} (S : SRel E s a w nt) {o : Oper} {c : COp} (hc : compOp P o.op = some c) {v : AVal} {H' : AHeap} {ds' : Dfs} {e : Ev} (h : aop Φ c s = some (v, H', ds', e)) :
    s.H.n ≤ H'.n ∧ ∀ {next : Act → World → Prop} {Q : Exit → Act → World → Prop}, Fresh E s.H.n H'.n →
      (∀ E' a' w' x, Ext E s.H w E' H' w' → Rel E' H' w' → cv E' v = some x → a'.tmps = (a.put o.dst x).tmps → DRel E' ds' a'.defers → next a' w') → o.wp P a w next Q := by
  cases c with
  | p c =>
    simp only [aop, Option.map_eq_some_iff, Prod.mk.injEq] at h
    obtain ⟨v', hv, rfl, rfl, rfl, rfl⟩ := h
    refine ⟨Nat.le_refl _, fun hF next => ?_⟩
    obtain ⟨x, hr, hx⟩ := pop_sound S.T hc hv w
    simp only [Oper.wp, hr, Oper.upon_value]
    exact next E _ w x (Ext.refl _ _ _) S.R hx rfl (by rw [act_put_defers]; exact S.D)
  | r c =>
    have : ∃ rd, ard s.tm c = some rd ∧ rd.get s.H = some v ∧ H' = s.H ∧ ds' = s.ds := by
      simp only [aop] at h
      split at h
      · rename_i x hx
        simp only [Option.map_eq_some_iff, Prod.mk.injEq] at h
        obtain ⟨v', rfl, rfl, rfl, rfl, rfl⟩ := h
        exact ⟨_, hx, rfl, rfl, rfl⟩
      · rename_i b g hx
        simp only [Option.map_eq_some_iff, Prod.mk.injEq] at h
        obtain ⟨v', hv, rfl, rfl, rfl, rfl⟩ := h
        exact ⟨_, hx, hv, rfl, rfl⟩
      · simp at h
    obtain ⟨rd, ha, hv, rfl, rfl⟩ := this
    refine ⟨Nat.le_refl _, fun hF next => ?_⟩
    obtain ⟨x, hr, hx⟩ := rop_sound S.R S.T hc ha hv
    simp only [Oper.wp, hr, Oper.upon_value]
    exact next E _ w x (Ext.refl _ _ _) S.R hx rfl (by rw [act_put_defers]; exact S.D)
  | a c =>
    simp only [aop, Option.map_eq_some_iff, Prod.exists, Prod.mk.injEq] at h
    obtain ⟨blk, f, ha, rfl, rfl, rfl, rfl⟩ := h
    refine ⟨by simp, fun hF next => ?_⟩
    obtain ⟨x, w', obj, l, hr, hW, hl, hB⟩ := aop_sound S.T hc ha w
    have hid : E s.H.n = none := hF _ (Nat.le_refl _) (by simp)
    simp only [Oper.wp, hr, Oper.upon_value]
    refine next (E.upd s.H.n l) _ w' x (Ext.made hid hl hW) ?_ (hB _ _ (Env.le_upd hid) (Env.upd_at _ _ _)).1 rfl (by rw [act_put_defers]; exact S.D.mono (Env.le_upd hid))
    exact S.R.made hid hl hW (fun E' le hl' => (hB E' _ le hl').2) (by rw [AHeap.get_push, if_pos rfl]) (fun b hb _ => by rw [AHeap.get_push, if_neg hb])
  | x c =>
    simp only [aop, Option.map_eq_some_iff, Prod.exists, Prod.mk.injEq] at h
    obtain ⟨v', H1, ds1, ha, rfl, rfl, rfl, rfl⟩ := h
    have calls : ∀ (g : FuncId) (args : List AVal) (as : List Value), cvs E args = some as → Φ g args s.H = some (v', H1) → ds1 = s.ds →
        (∀ w, (execOp a.eval o).run P w = (callFunc g as.toArray).run P w) →
        s.H.n ≤ H1.n ∧ ∀ {next : Act → World → Prop} {Q : Exit → Act → World → Prop}, Fresh E s.H.n H1.n →
          (∀ E' a' w' x, Ext E s.H w E' H1 w' → Rel E' H1 w' → cv E' v' = some x → a'.tmps = (a.put o.dst x).tmps → DRel E' ds1 a'.defers → next a' w') → o.wp P a w next Q := by
      intro g args as has hg hds hrun
      obtain ⟨hcal, hn, _, hC⟩ := hΦ g args s.H v' H1 hg
      refine ⟨hn, fun hF next => ?_⟩
      simp only [Oper.wp, hrun, callFunc_run hcal, Oper.upon_enter]
      refine (hC E w as S.wf has S.R hF).mono fun e w' he => ?_
      obtain ⟨E', x, rfl, hx, R', X⟩ := he
      exact next E' _ w' x X R' hx rfl (by rw [act_put_defers, hds]; exact S.D.mono X.le)
    obtain ⟨inv1, inv2, inv3⟩ := comp_inv hc
    have rest : (∀ f l, c ≠ .callF f l) → (∀ f l, c ≠ .callV f l) → (∀ f l, c ≠ .deferV f l) → (s.H.n ≤ H1.n) → s.H.n ≤ H1.n ∧ ∀ {next : Act → World → Prop} {Q : Exit → Act → World → Prop}, Fresh E s.H.n H1.n →
          (∀ E' a' w' x, Ext E s.H w E' H1 w' → Rel E' H1 w' → cv E' v' = some x → a'.tmps = (a.put o.dst x).tmps → DRel E' ds1 a'.defers → next a' w') → o.wp P a w next Q := by
      intro k1 k2 k3 hn
      refine ⟨hn, fun hF next => ?_⟩
      obtain ⟨⟨n, x, w', E', hr, hor, X, R', hx⟩, rfl⟩ := xop_sound S.R S.T hc k1 k2 k3 ha hF
      rcases hor with rfl | ⟨rfl, rfl⟩
      · simp only [Oper.wp, hr, Oper.upon_value]
        exact next E' _ w' x X R' hx rfl (by rw [act_put_defers]; exact S.D.mono X.le)
      · simp only [Oper.wp, hr, Oper.upon_skip]
        exact next E' _ w' undef X R' hx rfl (by rw [act_put_defers]; exact S.D.mono X.le)
    cases c with
    | callF f l =>
      simp only [axo, Option.bind_eq_some_iff, Option.map_eq_some_iff, Prod.exists, Prod.mk.injEq] at ha
      obtain ⟨args, hargs, v2, H2, hg, rfl, rfl, rfl⟩ := ha
      obtain ⟨cl, hop, hcal, hl⟩ := inv1 f l rfl
      refine calls f args _ (evs_sound S.T hl hargs) hg rfl fun w => ?_
      simp only [execOp, hop, resolve, hcal, Act.eval, Deferred.ofValue, Sem.run_bind, Sem.run_pure, Result.andThen_ok, invoke]
      congr 2
      apply Array.ext'; simp
    | callV x l =>
      simp only [axo, Option.bind_eq_some_iff, Option.map_eq_some_iff, Prod.exists, Prod.mk.injEq] at ha
      obtain ⟨xv, hxv, args, hargs, v2, H2, hg, rfl, rfl, rfl⟩ := ha
      obtain ⟨cl, y, hop, hcal, hy, hl⟩ := inv2 x l rfl
      have hx' := ev_sound S.T hy hxv
      unfold callVal at hg
      split at hg
      · rename_i g first cap
        simp only [cv, Option.bind_eq_some_iff, Option.map_eq_some_iff] at hx'
        obtain ⟨fv, hfv, pv, hpv, hx'⟩ := hx'
        refine calls g _ _ (cvs_append (cvs_append hfv (evs_sound S.T hl hargs)) hpv) hg rfl fun w => ?_
        simp only [execOp, hop, resolve, hcal, ← hx', Deferred.ofValue, Sem.run_bind, Sem.run_pure, Result.andThen_ok, invoke]
        congr 2
        apply Array.ext'; simp
      · simp at hg
    | deferV x l =>
      simp only [axo, Option.bind_eq_some_iff] at ha
      obtain ⟨xv, hxv, args, hargs, ha⟩ := ha
      obtain ⟨cl, y, hop, hcal, hy, hl⟩ := inv3 x l rfl
      have hx' := ev_sound S.T hy hxv
      split at ha
      · rename_i g first cap
        simp only [Option.some.injEq, Prod.mk.injEq] at ha
        obtain ⟨rfl, rfl, rfl⟩ := ha
        refine ⟨Nat.le_refl _, fun hF next => ?_⟩
        simp only [cv, Option.bind_eq_some_iff, Option.map_eq_some_iff] at hx'
        obtain ⟨fv, hfv, pv, hpv, hx'⟩ := hx'
        have hr : (execOp a.eval o).run P w = .ok (.defer { target := .fn (.func g) pv.toArray, args := (fv ++ cl.args.toList.map a.eval).toArray }) w := by
          simp only [execOp, hop, resolve, hcal, ← hx', Deferred.ofValue, Sem.run_bind, Sem.run_pure, Result.andThen_ok]
          congr 3
          apply Array.ext'; simp
        simp only [Oper.wp, hr, Oper.upon_defer]
        refine next E _ w undef (Ext.refl _ _ _) S.R rfl (act_put_with _ _ _ _) ?_
        rw [act_put_defers]
        exact ⟨⟨g, first, cap, fv, pv, _, rfl, hfv, hpv, evs_sound S.T hl hargs, rfl⟩, S.D⟩
      · simp at ha
    | callM x n l => simp [axo] at ha
    | store n x y =>
      refine rest (by simp) (by simp) (by simp) ?_
      simp only [axo] at ha
      split at ha
      · simp only [Option.bind_eq_some_iff] at ha
        obtain ⟨u, hu, ha⟩ := ha
        split at ha
        · simp only [Option.map_eq_some_iff, Prod.mk.injEq] at ha
          obtain ⟨H2, hst, rfl, rfl, rfl⟩ := ha
          rw [store_n hst]; exact Nat.le_refl _
        · simp at ha
      · simp at ha
    | mapSet k x i y =>
      refine rest (by simp) (by simp) (by simp) ?_
      simp only [axo, Option.bind_eq_some_iff] at ha
      obtain ⟨_, _, _, _, ha⟩ := ha
      split at ha
      · split at ha
        · simp only [Option.map_eq_some_iff, Prod.mk.injEq] at ha
          obtain ⟨_, _, rfl, rfl, rfl⟩ := ha
          simp
        · simp at ha
      · simp at ha
    | mapDel k x i =>
      refine rest (by simp) (by simp) (by simp) ?_
      simp only [axo, Option.bind_eq_some_iff] at ha
      obtain ⟨_, _, ha⟩ := ha
      split at ha
      · split at ha
        · simp only [Option.map_eq_some_iff, Prod.mk.injEq] at ha
          obtain ⟨_, _, rfl, rfl, rfl⟩ := ha
          simp
        · simp at ha
      · simp at ha
    | append e es by_ x y =>
      refine rest (by simp) (by simp) (by simp) ?_
      simp only [axo, Option.bind_eq_some_iff, Option.map_eq_some_iff, Prod.exists, Prod.mk.injEq] at ha
      obtain ⟨_, _, _, _, _, _, h, rfl, rfl, rfl⟩ := ha
      exact append_n h
    | copy es x y =>
      refine rest (by simp) (by simp) (by simp) ?_
      simp only [axo, Option.bind_eq_some_iff, Option.map_eq_some_iff, Prod.exists, Prod.mk.injEq] at ha
      obtain ⟨_, _, _, _, _, _, h, rfl, rfl, rfl⟩ := ha
      exact copy_n h
    | clearS z x =>
      refine rest (by simp) (by simp) (by simp) ?_
      simp only [axo] at ha
      split at ha
      · simp only [Option.some.injEq, Prod.mk.injEq] at ha; obtain ⟨rfl, rfl, rfl⟩ := ha; exact Nat.le_refl _
      · simp only [Option.some.injEq, Prod.mk.injEq] at ha; obtain ⟨rfl, rfl, rfl⟩ := ha; exact Nat.le_refl _
      · simp only [Option.map_eq_some_iff, Prod.mk.injEq] at ha
        obtain ⟨H2, hst, rfl, rfl, rfl⟩ := ha
        rw [store_n hst]; exact Nat.le_refl _
      · simp at ha
end Go.Eng

/- The engine, seventh part: each pure operation is sound. -/
import Derived.Test.YtgmaknppneonfaaEngF
set_option linter.unusedSimpArgs false
set_option linter.unusedVariables false
namespace Go.Eng
variable {P : Program}

theorem amax_dead (gt : Bool) : ∀ (l : List AVal), l.foldl (amaxStep gt) none = none
  | [] => rfl
  | a :: l => by simp only [List.foldl_cons]; exact amax_dead gt l
theorem amax_key {E : Env} (gt : Bool) {k : IntKind} {w : World} : ∀ (l : List AVal) (ys : List Value) (n : Int) (v : AVal), cvs E l = some ys → l.foldl (amaxStep gt) (some (.int k n)) = some v →
    ∃ x, ((if gt then ys.foldlM Builtin.max2 (.int k n) else ys.foldlM Builtin.min2 (.int k n) : Sem Value)).run P w = .ok x w ∧ cv E v = some x
  | [], ys, n, v, hy, h => by
    simp only [cvs, Option.some.injEq] at hy; subst hy
    simp only [List.foldl_nil, Option.some.injEq] at h; subst h
    exact ⟨.int k n, by cases gt <;> simp, rfl⟩
  | a :: l, ys, n, v, hy, h => by
    simp only [cvs, Option.bind_eq_some_iff, Option.map_eq_some_iff] at hy
    obtain ⟨x, hx, zs, hz, rfl⟩ := hy
    cases a with
    | int j m =>
      simp only [cv, Option.some.injEq] at hx; subst hx
      simp only [List.foldl_cons, amaxStep] at h
      obtain ⟨x, hr, hc⟩ := amax_key gt l zs _ v hz h
      refine ⟨x, ?_, hc⟩
      cases gt <;> simp only [Bool.false_eq_true, if_false, if_true, List.foldlM_cons, Sem.run_bind, Builtin.max2, Builtin.min2, Sem.run_pure, Result.andThen_ok, gt_iff_lt] at hr ⊢ <;> exact hr
    | _ => simp only [List.foldl_cons, amaxStep] at h; rw [amax_dead] at h; simp at h
theorem amax_sound {E : Env} (gt : Bool) {l : List AVal} {v : AVal} {args : List Value} (hl : cvs E l = some args) (h : amax gt l = some v) (w : World) (ts : Array TypeId) (t : TypeId) :
    ∃ x, ((if gt then Builtin.max_ ts t args.toArray else Builtin.min_ ts t args.toArray : Sem Value)).run P w = .ok x w ∧ cv E v = some x := by
  cases l with
  | nil => simp [amax] at h
  | cons a l =>
    cases a <;> simp only [amax, reduceCtorEq] at h
    rename_i k n
    simp only [cvs, cv, Option.bind_some, Option.map_eq_some_iff] at hl
    obtain ⟨ys, hy, rfl⟩ := hl
    obtain ⟨x, hr, hc⟩ := amax_key (P := P) (w := w) gt l ys n v hy h
    refine ⟨x, ?_, hc⟩
    cases gt <;> simpa [Builtin.max_, Builtin.min_] using hr

theorem compOpds_one {l : List Operand} {x : Opd} (h : compOpds l = some [x]) : ∃ y, l = [y] ∧ compOpd y = some x := by
  match l, h with
  | [], h => simp [compOpds] at h
  | [y], h =>
    simp only [compOpds, List.mapM_cons, List.mapM_nil, Option.pure_def, Option.bind_eq_bind, Option.bind_some, Option.bind_eq_some_iff, Option.some.injEq, List.cons.injEq, and_true] at h
    obtain ⟨z, hz, rfl⟩ := h
    exact ⟨y, rfl, hz⟩
  | y :: z :: r, h =>
    simp only [compOpds, List.mapM_cons, Option.pure_def, Option.bind_eq_bind, Option.bind_eq_some_iff, Option.some.injEq, List.cons.injEq] at h
    obtain ⟨_, _, _, ⟨_, _, _, _, rfl⟩, _, h⟩ := h
    simp at h
theorem compOpds_two {l : List Operand} {x x' : Opd} (h : compOpds l = some [x, x']) : ∃ y y', l = [y, y'] ∧ compOpd y = some x ∧ compOpd y' = some x' := by
  match l, h with
  | [], h => simp [compOpds] at h
  | y :: r, h =>
    simp only [compOpds, List.mapM_cons, Option.pure_def, Option.bind_eq_bind, Option.bind_eq_some_iff, Option.some.injEq, List.cons.injEq] at h
    obtain ⟨z, hz, q, hq, rfl, rfl⟩ := h
    obtain ⟨y', rfl, hy'⟩ := compOpds_one hq
    exact ⟨y, y', rfl, hz, hy'⟩

theorem builtin_pure {E : Env} {τ : Tm} {a : Act} (T : TRel E τ a.tmps) {b : Builtin} {ts : Array TypeId} {l : List Operand} {cl : List Opd} {c : POp} (hl : compOpds l = some cl) (hc : compBuiltin P b ts cl = some (.p c)) {v : AVal} (hv : apu τ c = some v) (w : World) (ty : TypeId) :
    ∃ x, (∀ cs, (Go.builtin b ts ty cs (l.map a.eval).toArray).run P w = .ok (.value x) w) ∧ cv E v = some x := by
  unfold compBuiltin at hc
  split at hc
  · rename_i x
    obtain ⟨y, rfl, hy⟩ := compOpds_one hl
    simp only [Option.bind_eq_some_iff] at hc
    obtain ⟨t, ht, hc⟩ := hc
    split at hc
    · rename_i hu
      simp only [Option.some.injEq, COp.p.injEq] at hc; subst hc
      simp only [apu] at hv
      split at hv
      · rename_i s e
        simp only [Option.some.injEq] at hv; subst hv
        have hx' := ev_sound T hy e
        simp only [cv, Option.some.injEq] at hx'
        exact ⟨_, fun cs => by simp [Go.builtin, Builtin.len_, ht, run_underlying hu, ← hx', goInt]; rfl, by simp [cv, ByteArray.size]⟩
      · simp at hv
    · rename_i e hu
      simp only [Option.some.injEq, COp.p.injEq] at hc; subst hc
      simp only [apu] at hv
      split at hv
      · rename_i b o n cp ee
        simp only [Option.some.injEq] at hv; subst hv
        have hx' := ev_sound T hy ee
        cases cp <;> (simp only [cv, Option.map_eq_some_iff] at hx'; obtain ⟨loc, hloc, hx'⟩ := hx'; exact ⟨_, fun cs => by simp [Go.builtin, Builtin.len_, ht, run_underlying hu, ← hx', goInt]; rfl, by simp [cv]⟩)
      · rename_i ee
        simp only [Option.some.injEq] at hv; subst hv
        have hx' := ev_sound T hy ee
        simp only [cv, Option.map_eq_some_iff] at hx'
        obtain ⟨loc, hloc, hx'⟩ := hx'
        exact ⟨_, fun cs => by simp [Go.builtin, Builtin.len_, ht, run_underlying hu, ← hx', goInt]; rfl, by simp [cv]⟩
      · rename_i ee
        simp only [Option.some.injEq] at hv; subst hv
        have hx' := ev_sound T hy ee
        simp only [cv, Option.some.injEq] at hx'
        exact ⟨_, fun cs => by simp [Go.builtin, Builtin.len_, ht, run_underlying hu, ← hx', goInt]; rfl, by simp [cv]⟩
      · rename_i a1 n cp ee
        simp only [Option.some.injEq] at hv; subst hv
        have hx' := ev_sound T hy ee
        simp only [cv, Option.some.injEq] at hx'
        exact ⟨_, fun cs => by simp [Go.builtin, Builtin.len_, ht, run_underlying hu, ← hx', goInt]; rfl, by simp [cv]⟩
      · simp at hv
    · rename_i n e hu
      simp only [Option.some.injEq, COp.p.injEq] at hc; subst hc
      simp only [apu, Option.some.injEq] at hv; subst hv
      exact ⟨_, fun cs => by simp [Go.builtin, Builtin.len_, ht, run_underlying hu, goInt], rfl⟩
    · rename_i q hu
      split at hc
      · rename_i n e hq
        simp only [Option.some.injEq, COp.p.injEq] at hc; subst hc
        simp only [apu, Option.some.injEq] at hv; subst hv
        exact ⟨_, fun cs => by simp [Go.builtin, Builtin.len_, ht, run_underlying hu, run_underlying hq, goInt], rfl⟩
      · simp at hc
    · simp at hc
    · simp at hc
  · -- cap
    rename_i x
    obtain ⟨y, rfl, hy⟩ := compOpds_one hl
    simp only [Option.bind_eq_some_iff] at hc
    obtain ⟨t, ht, hc⟩ := hc
    split at hc
    · rename_i e hu
      simp only [Option.some.injEq, COp.p.injEq] at hc; subst hc
      simp only [apu] at hv
      split at hv
      · rename_i b o n cp ee
        simp only [Option.some.injEq] at hv; subst hv
        have hx' := ev_sound T hy ee
        simp only [cv, Option.map_eq_some_iff] at hx'
        obtain ⟨loc, hloc, hx'⟩ := hx'
        exact ⟨_, fun cs => by simp [Go.builtin, Builtin.cap_, ht, run_underlying hu, ← hx', goInt]; rfl, by simp [cv]⟩
      · rename_i ee
        simp only [Option.some.injEq] at hv; subst hv
        have hx' := ev_sound T hy ee
        simp only [cv, Option.some.injEq] at hx'
        exact ⟨_, fun cs => by simp [Go.builtin, Builtin.cap_, ht, run_underlying hu, ← hx', goInt]; rfl, by simp [cv]⟩
      · simp at hv
    · simp at hc
  · -- max
    simp only [Option.some.injEq, COp.p.injEq] at hc; subst hc
    simp only [apu, Option.bind_eq_some_iff] at hv
    obtain ⟨vs, hvs, hv⟩ := hv
    obtain ⟨x, hr, hcv⟩ := amax_sound (P := P) true (evs_sound T hl hvs) hv w ts ty
    exact ⟨x, fun cs => by simp only [Go.builtin, Sem.run_bind]; simp only [if_true] at hr; rw [hr]; rfl, hcv⟩
  · simp only [Option.some.injEq, COp.p.injEq] at hc; subst hc
    simp only [apu, Option.bind_eq_some_iff] at hv
    obtain ⟨vs, hvs, hv⟩ := hv
    obtain ⟨x, hr, hcv⟩ := amax_sound (P := P) false (evs_sound T hl hvs) hv w ts ty
    exact ⟨x, fun cs => by simp only [Go.builtin, Sem.run_bind]; simp only [Bool.false_eq_true, if_false] at hr; rw [hr]; rfl, hcv⟩
  all_goals
    first
      | (simp at hc; done)
      | (simp only [Option.bind_eq_some_iff] at hc
         obtain ⟨t, ht, hc⟩ := hc
         try (obtain ⟨u, hu, hc⟩ := hc)
         split at hc <;> simp only [Option.bind_eq_some_iff, Option.map_eq_some_iff, reduceCtorEq, Option.some.injEq] at hc <;> (try (obtain ⟨_, _, hc⟩ := hc)) <;> (try (obtain ⟨_, _, hc⟩ := hc)) <;> (try (obtain ⟨_, _, hc⟩ := hc)) <;> (try (split at hc)) <;> (try simp at hc))

theorem run_fieldPlace {b o s : Nat} {f : Field} (hs : sizeT P f.type = some s) (h0 : s ≠ 0) (w : World) : (fieldPlace ⟨b, o, none⟩ f).run P w = .ok ⟨b, o + f.offset, none⟩ w := by
  simp only [fieldPlace, Sem.run_bind, run_sizeT hs, Result.andThen_ok, if_neg h0, Sem.run_pure, Addr.add]
  by_cases hf : f.offset = 0 <;> simp [hf]
theorem add_plain (b o n : Nat) : (⟨b, o, none⟩ : Addr).add n = ⟨b, o + n, none⟩ := by
  simp only [Addr.add]; by_cases h : n = 0 <;> simp [h]
theorem nilChk_cases {x : Value} (h : (∃ a, x = .pointer (some a)) ∨ (∃ t v, x = .iface t v) ∨ ∃ f a c, x = .func (.func f) a c) {o : Oper} {y : Operand} (ho : o.op = .nilCheck y) {a : Act} (ha : a.eval y = x) (w : World) : (execOp a.eval o).run P w = .ok (.value x) w := by
  simp only [execOp, ho, ha]
  rcases h with ⟨p, rfl⟩ | ⟨t, v, rfl⟩ | ⟨f, q, c, rfl⟩ <;> rfl

theorem places_struct {fs : Array Field} {w : World} : ∀ (l : List Field), (∀ f ∈ l, ∃ s, sizeT P f.type = some s) →
    (l.mapM fun (f : Field) => (do pure (f.offset, ← sizeOf f.type) : Sem (Nat × Nat))).run P w = .ok (l.map fun f => (f.offset, (sizeT P f.type).getD 0)) w
  | [], h => by simp
  | f :: l, h => by
    obtain ⟨s, hs⟩ := h f (by simp)
    have ih := places_struct (fs := fs) (w := w) l (fun g hg => h g (by simp [hg]))
    simp only [List.mapM_cons, Sem.run_bind, run_sizeT hs, Result.andThen_ok, Sem.run_pure, ih, List.map_cons, hs, Option.getD_some]

set_option maxHeartbeats 4000000 in
theorem pop_sound {E : Env} {τ : Tm} {a : Act} (T : TRel E τ a.tmps) {o : Oper} {c : POp} (hc : compOp P o.op = some (.p c)) {v : AVal} (hv : apu τ c = some v) (w : World) : Ans P a o E v w := by
  obtain ⟨dst, op, ty, pos, after, guard⟩ := o
  unfold Ans
  cases op with
  | move x | assign x =>
    simp only [compOp, Option.map_eq_some_iff, COp.p.injEq] at hc
    obtain ⟨x', hx, rfl⟩ := hc
    exact ⟨_, rfl, ev_sound T hx hv⟩
  | pick x y z =>
    simp only [compOp, Option.bind_eq_some_iff, Option.map_eq_some_iff, COp.p.injEq] at hc
    obtain ⟨x', hx, y', hy, z', hz, rfl⟩ := hc
    simp only [apu] at hv
    split at hv
    · rename_i e
      have := ev_sound T hx e
      simp only [cv, Option.some.injEq] at this
      exact ⟨a.eval y, by simp [execOp, ← this, asBool], ev_sound T hy hv⟩
    · rename_i e
      have := ev_sound T hx e
      simp only [cv, Option.some.injEq] at this
      exact ⟨a.eval z, by simp [execOp, ← this, asBool], ev_sound T hz hv⟩
    · simp at hv
  | build t ps =>
    simp only [compOp] at hc
    split at hc
    · rename_i fs hu
      by_cases hsized : sized P t = true
      case neg => rw [if_neg hsized] at hc; simp at hc
      rw [if_pos hsized] at hc
      simp only [Option.bind_eq_some_iff, Option.map_eq_some_iff, COp.p.injEq] at hc
      obtain ⟨z, hz, l, hl, rfl⟩ := hc
      simp only [apu, Option.map_eq_some_iff] at hv
      obtain ⟨ds, hd, rfl⟩ := hv
      obtain ⟨zv, hzr, hzc⟩ := run_zeroC hz w
      simp only [sized, hu, List.all_eq_true] at hsized
      have hall : ∀ f ∈ fs.toList, ∃ s, sizeT P f.type = some s := fun f hf => Option.isSome_iff_exists.1 (hsized f hf)
      have hpl := places_struct (fs := fs) (w := w) fs.toList hall
      obtain ⟨brr, hf, hb⟩ := fillA_sound (E := E) T hl hd (hzc E)
      refine ⟨.agg brr, ?_, by simp [cv, hb]⟩
      have hplace : (fun i => (fs.toList.map fun f => (f.offset, (sizeT P f.type).getD 0)).toArray[i]?) = placeField P fs := by
        funext i
        simp only [placeField, List.getElem?_toArray, List.getElem?_map, Array.getElem?_toList]
        cases hi : fs[i]? with
        | none => simp
        | some f =>
          obtain ⟨s, hs⟩ := hall f (by rw [← Array.getElem?_toList] at hi; exact List.mem_of_getElem? hi)
          simp [hs]
      simp only [execOp, Instr.build, Sem.run_bind, hzr, Result.andThen_ok, run_underlying hu, Array.mapM_eq_mapM_toList, Sem.run_map, hpl, Array.toList_map]
      rw [hplace, hf]
      simp
    · rename_i n e hu
      simp only [Option.bind_eq_some_iff, Option.map_eq_some_iff, COp.p.injEq] at hc
      obtain ⟨z, hz, s, hs, l, hl, rfl⟩ := hc
      simp only [apu, Option.map_eq_some_iff] at hv
      obtain ⟨ds, hd, rfl⟩ := hv
      obtain ⟨zv, hzr, hzc⟩ := run_zeroC hz w
      obtain ⟨brr, hf, hb⟩ := fillA_sound (E := E) T hl hd (hzc E)
      refine ⟨.agg brr, ?_, by simp [cv, hb]⟩
      simp only [execOp, Instr.build, Sem.run_bind, hzr, Result.andThen_ok, run_underlying hu, run_sizeT hs, Array.toList_map, hf]
      simp
    · simp at hc
  | nilCheck x =>
    simp only [compOp, Option.map_eq_some_iff, COp.p.injEq] at hc
    obtain ⟨x', hx, rfl⟩ := hc
    simp only [apu, Option.bind_eq_some_iff] at hv
    obtain ⟨u, hu, hv⟩ := hv
    have hs := ev_sound T hx hu
    split at hv
    · simp only [Option.some.injEq] at hv; subst hv
      simp only [cv, Option.map_eq_some_iff] at hs
      obtain ⟨l, hl, hs⟩ := hs
      exact ⟨_, nilChk_cases (.inl ⟨_, rfl⟩) rfl hs.symm w, by simp [cv, hl]⟩
    · simp only [Option.some.injEq] at hv; subst hv
      have hs' := hs
      simp only [cv, Option.map_eq_some_iff] at hs
      obtain ⟨y, hy, hs⟩ := hs
      exact ⟨_, nilChk_cases (.inr (.inl ⟨_, _, rfl⟩)) rfl hs.symm w, by rw [hs', ← hs]⟩
    · simp only [Option.some.injEq] at hv; subst hv
      have hs' := hs
      simp only [cv, Option.bind_eq_some_iff, Option.map_eq_some_iff] at hs
      obtain ⟨y, hy, z, hz, hs⟩ := hs
      exact ⟨_, nilChk_cases (.inr (.inr ⟨_, _, _, rfl⟩)) rfl hs.symm w, by rw [hs', ← hs]⟩
    · simp at hv
  | binOp op t x y ty' =>
    simp only [compOp, Option.bind_eq_some_iff] at hc
    obtain ⟨x', hx, y', hy, hc⟩ := hc
    have eqcase : ∀ neg, op = (if neg then .neq else .eql) → compEq P neg t x' y' = some (.p c) → ∃ u, (execOp a.eval ⟨dst, .binOp op t x y ty', ty, pos, after, guard⟩).run P w = .ok (.value u) w ∧ cv E v = some u := by
      intro neg hop hc
      simp only [compEq] at hc
      split at hc
      · rename_i k hu
        simp only [Option.some.injEq, COp.p.injEq] at hc; subst hc
        simp only [apu, Option.bind_eq_some_iff] at hv
        obtain ⟨p, hp, q, hq, hv⟩ := hv
        have h1 := ev_sound T hx hp
        have h2 := ev_sound T hy hq
        rw [← hop] at hv
        obtain ⟨u, hr, hcv⟩ := abin_sound (P := P) h1 h2 hv t w
        refine ⟨u, ?_, hcv⟩
        have hg : eqGuard op t x y (a.eval x) (a.eval y) = pure () := by
          have : ∀ (p q : AVal), abin op p q = some v → cv E p = some (a.eval x) → (∃ k n, a.eval x = .int k n) ∨ ∃ s, a.eval x = .string s := by
            intro p q h k
            cases p <;> simp only [abin, reduceCtorEq] at h <;> simp only [cv, Option.some.injEq] at k
            · exact .inl ⟨_, _, k.symm⟩
            · exact .inr ⟨_, k.symm⟩
          rcases this p q hv h1 with ⟨k, n, e⟩ | ⟨s, e⟩ <;> rw [e] <;> cases op <;> rfl
        simp [execOp, hg, hr]
      · rename_i hu
        simp only [Option.some.injEq, COp.p.injEq] at hc; subst hc
        simp only [apu, Option.bind_eq_some_iff] at hv
        obtain ⟨p, hp, q, hq, hv⟩ := hv
        have h1 := ev_sound T hx hp
        have h2 := ev_sound T hy hq
        rw [← hop] at hv
        obtain ⟨u, hr, hcv⟩ := abin_sound (P := P) h1 h2 hv t w
        refine ⟨u, ?_, hcv⟩
        have hg : eqGuard op t x y (a.eval x) (a.eval y) = pure () := by
          have : ∀ (p q : AVal), abin op p q = some v → cv E p = some (a.eval x) → (∃ k n, a.eval x = .int k n) ∨ ∃ s, a.eval x = .string s := by
            intro p q h k
            cases p <;> simp only [abin, reduceCtorEq] at h <;> simp only [cv, Option.some.injEq] at k
            · exact .inl ⟨_, _, k.symm⟩
            · exact .inr ⟨_, k.symm⟩
          rcases this p q hv h1 with ⟨k, n, e⟩ | ⟨s, e⟩ <;> rw [e] <;> cases op <;> rfl
        simp [execOp, hg, hr]
      · simp only [Option.map_eq_some_iff, COp.p.injEq] at hc
        obtain ⟨k, hk, rfl⟩ := hc
        simp only [apu, Option.bind_eq_some_iff, Option.map_eq_some_iff] at hv
        obtain ⟨p, hp, q, hq, r, hr, rfl⟩ := hv
        have h1 := ev_sound T hx hp
        have h2 := ev_sound T hy hq
        have := aeq_sound (P := P) hop hk h1 h2 hr (ox := x) (oy := y) w
        exact ⟨_, by simp only [execOp, Sem.run_bind] at this ⊢; simp only [this, Result.andThen_ok, Sem.run_pure], rfl⟩
    have other : op ≠ .eql → op ≠ .neq → some (COp.p (.bin op x' y')) = some (COp.p c) → ∃ u, (execOp a.eval ⟨dst, .binOp op t x y ty', ty, pos, after, guard⟩).run P w = .ok (.value u) w ∧ cv E v = some u := by
      intro n1 n2 hc
      simp only [Option.some.injEq, COp.p.injEq] at hc; subst hc
      simp only [apu, Option.bind_eq_some_iff] at hv
      obtain ⟨p, hp, q, hq, hv⟩ := hv
      obtain ⟨u, hr, hcv⟩ := abin_sound (P := P) (ev_sound T hx hp) (ev_sound T hy hq) hv t w
      refine ⟨u, ?_, hcv⟩
      have hg : eqGuard op t x y (a.eval x) (a.eval y) = pure () := by cases op <;> first | exact absurd rfl n1 | exact absurd rfl n2 | rfl
      simp [execOp, hg, hr]
    cases op <;> first
      | exact eqcase false rfl hc
      | exact eqcase true rfl hc
      | exact other (by simp) (by simp) hc
  | unOp op t x =>
    simp only [compOp, Option.map_eq_some_iff, COp.p.injEq] at hc
    obtain ⟨x', hx, rfl⟩ := hc
    simp only [apu, Option.bind_eq_some_iff] at hv
    obtain ⟨p, hp, hv⟩ := hv
    obtain ⟨u, hr, hcv⟩ := aun_sound (P := P) (ev_sound T hx hp) hv w
    exact ⟨u, by simp [execOp, hr], hcv⟩
  | convert s d x =>
    simp only [compOp, Option.bind_eq_some_iff] at hc
    obtain ⟨x', hx, hc⟩ := hc
    split at hc
    · rename_i k0 k h1 h2
      simp only [Option.some.injEq, COp.p.injEq] at hc; subst hc
      simp only [apu] at hv
      split at hv
      · rename_i j n e
        have := ev_sound T hx e
        simp only [cv, Option.some.injEq] at this
        simp only [Option.some.injEq] at hv; subst hv
        exact ⟨_, by simp [execOp, convert, run_underlying h1, run_underlying h2, ← this, Conv.intToInt], rfl⟩
      · simp at hv
    · rename_i h1 h2
      simp only [Option.some.injEq, COp.p.injEq] at hc; subst hc
      simp only [apu] at hv
      split at hv
      · rename_i z e
        have := ev_sound T hx e
        simp only [Option.some.injEq] at hv; subst hv
        refine ⟨a.eval x, ?_, this⟩
        simp only [cv, Option.some.injEq] at this
        simp [execOp, convert, run_underlying h1, run_underlying h2, ← this]
      · simp at hv
    · split at hc <;> simp at hc
    · split at hc <;> simp at hc
    · simp at hc
  | makeFunc f p q =>
    simp only [compOp, Option.bind_eq_some_iff, Option.map_eq_some_iff, COp.p.injEq] at hc
    obtain ⟨p', hp, q', hq, rfl⟩ := hc
    simp only [apu, Option.bind_eq_some_iff, Option.map_eq_some_iff] at hv
    obtain ⟨u, hu, z, hz, rfl⟩ := hv
    have h1 := evs_sound T hp hu
    have h2 := evs_sound T hq hz
    refine ⟨.func f (p.map a.eval) (q.map a.eval), by simp [execOp, Instr.makeFunc], ?_⟩
    simp only [cv, h1, h2, Option.bind_some, Option.map_some, Option.some.injEq, Value.func.injEq, true_and]
    constructor <;> (apply Array.ext'; simp)
  | makeInterface t x =>
    simp only [compOp] at hc
    split at hc
    · simp at hc
    · simp at hc
    · rename_i hni hns
      simp only [Option.map_eq_some_iff, COp.p.injEq] at hc
      obtain ⟨x', hx, rfl⟩ := hc
      simp only [apu, Option.map_eq_some_iff] at hv
      obtain ⟨y, hy, rfl⟩ := hv
      have := ev_sound T hx hy
      refine ⟨.iface t (a.eval x), ?_, by simp [cv, this]⟩
      cases huu : P.underlying t with
      | none => exact absurd huu hns
      | some d =>
        simp only [execOp, Instr.makeInterface, Sem.run_bind, run_underlying huu, Result.andThen_ok]
        cases d <;> first | (simp; done) | exact absurd huu (hni _)
  | slice t x lo hi mx =>
    cases mx with
    | some m =>
      cases hi with
      | none => simp [compOp] at hc
      | some hi =>
        simp only [compOp, Option.bind_eq_some_iff] at hc
        obtain ⟨_, _, _, _, _, _, _, _, hc⟩ := hc
        split at hc
        · simp only [Option.map_eq_some_iff] at hc; obtain ⟨_, _, hc⟩ := hc; simp at hc
        · simp at hc
    | none =>
      simp only [compOp, Option.bind_eq_some_iff] at hc
      obtain ⟨x', hx, lo', hlo, hi', hhi, hc⟩ := hc
      split at hc
      · rename_i hu
        simp only [Option.some.injEq, COp.p.injEq] at hc; subst hc
        simp only [apu] at hv
        split at hv
        · rename_i s e
          simp only [Option.bind_eq_some_iff, Option.map_eq_some_iff, Prod.exists] at hv
          obtain ⟨l1, hl1, h1, hh1, l, h, hb, rfl⟩ := hv
          have hs := ev_sound T hx e
          simp only [cv, Option.some.injEq] at hs
          obtain ⟨hb', hlh, _⟩ := abounds_sound (P := P) (isSlice := false) T hlo hl1 hhi hh1 hb w
          have hsz : (⟨s.toArray⟩ : ByteArray).size = s.length := by simp [ByteArray.size]
          refine ⟨.string (ByteArray.extract ⟨s.toArray⟩ l h), ?_, ?_⟩
          · simp only [execOp, Instr.sliceAt, Sem.run_bind, run_underlying hu, Result.andThen_ok, Option.map_none, ← hs, Instr.slice, Option.isSome_none, Bool.false_eq_true, if_false, Sem.run_ite, Sem.run_pure, hsz, hb']
          · simp only [cv, Option.some.injEq, Value.string.injEq]
            apply ByteArray.ext
            simp [ByteArray.data_extract, List.extract_eq_take_drop]
        · simp at hv
      · simp only [Option.map_eq_some_iff] at hc
        obtain ⟨s, hs, hc⟩ := hc
        simp at hc
      · rename_i n e hu
        simp only [Option.map_eq_some_iff, COp.p.injEq] at hc
        obtain ⟨s, hs, rfl⟩ := hc
        simp only [apu] at hv
        split at hv
        · rename_i b off ee
          simp only [Option.bind_eq_some_iff, Option.map_eq_some_iff, Prod.exists] at hv
          obtain ⟨l1, hl1, h1, hh1, l, h, hb, rfl⟩ := hv
          have hx' := ev_sound T hx ee
          simp only [cv, Option.map_eq_some_iff] at hx'
          obtain ⟨loc, hloc, hx'⟩ := hx'
          obtain ⟨hb', hlh, _⟩ := abounds_sound (P := P) (isSlice := false) T hlo hl1 hhi hh1 hb w
          refine ⟨.slice (some ⟨loc.blk, if n = l then off else off + l * s, none⟩) (h - l) (n - l), ?_, by simp [cv, hloc]⟩
          simp only [execOp, Instr.sliceAt, Sem.run_bind, run_underlying hu, Result.andThen_ok, Option.map_none, ← hx', Instr.sureAddr, Sem.run_pure, hb', run_sizeT hs, add_plain]
          by_cases hnl : n = l <;> simp [hnl]
        · simp at hv
      · simp at hc
  | fieldAddr t x f =>
    simp only [compOp] at hc
    split at hc
    · rename_i fs hu
      simp only [Option.bind_eq_some_iff] at hc
      obtain ⟨g, hg, s, hs, hc⟩ := hc
      by_cases h0 : s = 0
      · simp [h0] at hc
      · simp only [h0, if_false, Option.map_eq_some_iff, COp.p.injEq] at hc
        obtain ⟨x', hx, rfl⟩ := hc
        simp only [apu] at hv
        split at hv
        · rename_i b off e
          simp only [Option.some.injEq] at hv; subst hv
          have hx' := ev_sound T hx e
          simp only [cv, Option.map_eq_some_iff] at hx'
          obtain ⟨loc, hloc, hx'⟩ := hx'
          refine ⟨.pointer (some ⟨loc.blk, off + g.offset, none⟩), ?_, by simp [cv, hloc]⟩
          simp only [execOp, Instr.fieldAt, Sem.run_bind, run_underlying hu, Result.andThen_ok, hg, ← hx', Instr.sureAddr, Sem.run_pure, run_fieldPlace hs h0]
        · simp at hv
    · simp at hc
  | field t x f =>
    simp only [compOp] at hc
    split at hc
    · rename_i fs hu
      simp only [Option.bind_eq_some_iff] at hc
      obtain ⟨g, hg, s, hs, d, hd, hc⟩ := hc
      simp only [Option.map_eq_some_iff, COp.p.injEq] at hc
      obtain ⟨x', hx, rfl⟩ := hc
      simp only [apu] at hv
      split at hv
      · rename_i cs e
        have hx' := ev_sound T hx e
        simp only [cv, Option.map_eq_some_iff] at hx'
        obtain ⟨ys, hy, hx'⟩ := hx'
        obtain ⟨u, hr, hcv⟩ := run_partA (P := P) (E := E) hd hs (arr := ys.toArray) (by simpa using hy) hv w
        exact ⟨u, by simp only [execOp, Instr.field, Sem.run_bind, run_underlying hu, Result.andThen_ok, hg, ← hx', asAgg, Sem.run_pure, hr], hcv⟩
      · simp at hv
    · simp at hc
  | indexAddr t x i =>
    simp only [compOp, Option.bind_eq_some_iff] at hc
    obtain ⟨x', hx, i', hi, hc⟩ := hc
    split at hc
    · rename_i e hu
      simp only [Option.map_eq_some_iff, COp.p.injEq] at hc
      obtain ⟨s, hs, rfl⟩ := hc
      simp only [apu] at hv
      split at hv
      · rename_i b off n cap k j e1 e2
        by_cases hb : 0 ≤ j ∧ j < (n : Int)
        · rw [if_pos hb] at hv
          simp only [Option.some.injEq] at hv; subst hv
          have hx' := ev_sound T hx e1
          have hi' := ev_sound T hi e2
          simp only [cv, Option.some.injEq] at hi'
          have : ∃ loc cc, E b = some loc ∧ a.eval x = .slice (some ⟨loc.blk, off, none⟩) n cc := by
            cases cap <;> (simp only [cv, Option.map_eq_some_iff] at hx'; obtain ⟨loc, hloc, hx'⟩ := hx'; exact ⟨loc, _, hloc, hx'.symm⟩)
          obtain ⟨loc, cc, hloc, hx'⟩ := this
          refine ⟨.pointer (some ⟨loc.blk, off + j.toNat * s, none⟩), ?_, by simp [cv, hloc]⟩
          simp only [execOp, Instr.indexAt, Sem.run_bind, ← hi', asIntOf, Sem.run_pure, Result.andThen_ok, run_underlying hu, hx']
          simp only [if_pos hb, Sem.run_bind, run_sizeT hs, Result.andThen_ok, Sem.run_pure, add_plain]
        · rw [if_neg hb] at hv; simp at hv
      · simp at hv
    · rename_i len e hu
      simp only [Option.map_eq_some_iff, COp.p.injEq] at hc
      obtain ⟨s, hs, rfl⟩ := hc
      simp only [apu] at hv
      split at hv
      · rename_i b off k j e1 e2
        by_cases hb : 0 ≤ j ∧ j < (len : Int)
        · rw [if_pos hb] at hv
          simp only [Option.some.injEq] at hv; subst hv
          have hx' := ev_sound T hx e1
          have hi' := ev_sound T hi e2
          simp only [cv, Option.some.injEq] at hi'
          simp only [cv, Option.map_eq_some_iff] at hx'
          obtain ⟨loc, hloc, hx'⟩ := hx'
          refine ⟨.pointer (some ⟨loc.blk, off + j.toNat * s, none⟩), ?_, by simp [cv, hloc]⟩
          simp only [execOp, Instr.indexAt, Sem.run_bind, ← hi', asIntOf, Sem.run_pure, Result.andThen_ok, run_underlying hu, ← hx', Instr.sureAddr]
          simp only [if_pos hb, Sem.run_bind, run_sizeT hs, Result.andThen_ok, Sem.run_pure, add_plain]
        · rw [if_neg hb] at hv; simp at hv
      · simp at hv
    · simp at hc
  | index t x i =>
    simp only [compOp, Option.bind_eq_some_iff] at hc
    obtain ⟨x', hx, i', hi, hc⟩ := hc
    split at hc
    · rename_i len e hu
      simp only [Option.bind_eq_some_iff, Option.some.injEq, COp.p.injEq] at hc
      obtain ⟨s, hs, d, hd, rfl⟩ := hc
      simp only [apu] at hv
      split at hv
      · rename_i cs k j e1 e2
        by_cases hb : 0 ≤ j ∧ j < (len : Int)
        · rw [if_pos hb] at hv
          have hx' := ev_sound T hx e1
          have hi' := ev_sound T hi e2
          simp only [cv, Option.some.injEq] at hi'
          simp only [cv, Option.map_eq_some_iff] at hx'
          obtain ⟨ys, hy, hx'⟩ := hx'
          obtain ⟨u, hr, hcv⟩ := run_partA (P := P) (E := E) hd hs (arr := ys.toArray) (by simpa using hy) hv w
          refine ⟨u, ?_, hcv⟩
          simp only [execOp, Instr.index, Sem.run_bind, ← hi', asIntOf, Sem.run_pure, Result.andThen_ok, run_underlying hu, ← hx']
          simp only [if_pos hb, Sem.run_bind, run_sizeT hs, Result.andThen_ok, hr, Sem.run_pure]
        · rw [if_neg hb] at hv; simp at hv
      · simp at hv
    · rename_i hu
      simp only [Option.some.injEq, COp.p.injEq] at hc; subst hc
      simp only [apu] at hv
      split at hv
      · rename_i s k j e1 e2
        by_cases hb : 0 ≤ j
        · rw [if_pos hb] at hv
          simp only [Option.map_eq_some_iff] at hv
          obtain ⟨ch, hch, rfl⟩ := hv
          have hx' := ev_sound T hx e1
          have hi' := ev_sound T hi e2
          simp only [cv, Option.some.injEq] at hi' hx'
          refine ⟨.int .u8 ch.toNat, ?_, rfl⟩
          have hget : (⟨s.toArray⟩ : ByteArray)[j.toNat]? = some ch := by
            have hlt : j.toNat < s.length := by
              rcases Nat.lt_or_ge j.toNat s.length with h | h
              · exact h
              · rw [List.getElem?_eq_none h] at hch; simp at hch
            rw [List.getElem?_eq_getElem hlt] at hch
            simp only [Option.some.injEq] at hch
            have hlt' : j.toNat < (⟨s.toArray⟩ : ByteArray).size := by simpa [ByteArray.size] using hlt
            rw [getElem?_pos (⟨s.toArray⟩ : ByteArray) j.toNat hlt']
            simp only [Option.some.injEq]
            rw [← hch]; rfl
          simp only [execOp, Instr.index, Sem.run_bind, ← hi', asIntOf, Sem.run_pure, Result.andThen_ok, run_underlying hu, ← hx', if_pos hb, hget]
        · rw [if_neg hb] at hv; simp at hv
      · simp at hv
    · simp at hc
  | extract x i =>
    simp only [compOp, Option.map_eq_some_iff, COp.p.injEq] at hc
    obtain ⟨x', hx, rfl⟩ := hc
    simp only [apu] at hv
    split at hv
    · rename_i vs e
      have hx' := ev_sound T hx e
      simp only [cv, Option.map_eq_some_iff] at hx'
      obtain ⟨ys, hy, hx'⟩ := hx'
      obtain ⟨u, hu, hcv⟩ := cvs_get hy hv
      refine ⟨u, ?_, hcv⟩
      have : ys.toArray[i]? = some u := by simpa using hu
      simp [execOp, Instr.extract, ← hx', this]
    · simp at hv
  | call cl =>
    simp only [compOp, Option.bind_eq_some_iff] at hc
    obtain ⟨l, hl, hc⟩ := hc
    obtain ⟨callee, args, argTypes⟩ := cl
    cases callee with
    | value x =>
      cases x with
      | func f => simp only [] at hc; split at hc <;> simp at hc
      | _ => simp only [Option.map_eq_some_iff] at hc; obtain ⟨_, _, hc⟩ := hc; simp at hc
    | invoke x n => simp only [Option.map_eq_some_iff] at hc; obtain ⟨_, _, hc⟩ := hc; simp at hc
    | builtin b =>
      obtain ⟨u, hr, hcv⟩ := builtin_pure T hl hc hv w ty
      refine ⟨u, ?_, hcv⟩
      have := hr (args.map fun | .const _ => true | _ => false)
      simp only [execOp, resolve, invoke, Sem.run_bind, Sem.run_pure, Result.andThen_ok]
      have e : (args.toList.map a.eval).toArray = args.map a.eval := by apply Array.ext'; simp
      rw [e] at hr
      exact hr _
  | load t x =>
    simp only [compOp, Option.bind_eq_some_iff] at hc
    obtain ⟨_, _, hc⟩ := hc
    (repeat' split at hc) <;> simp at hc
  | store t x y => simp [compOp, Option.bind_eq_some_iff] at hc
  | defer cl =>
    simp only [compOp, Option.bind_eq_some_iff] at hc
    obtain ⟨_, _, hc⟩ := hc
    split at hc <;> simp [Option.bind_eq_some_iff] at hc
  | alloc t => simp [compOp] at hc
  | box t x => simp [compOp, Option.bind_eq_some_iff] at hc
  | buildSlice t n ps =>
    simp only [compOp] at hc
    split at hc
    · simp only [Option.bind_eq_some_iff] at hc
      obtain ⟨_, _, _, _, hc⟩ := hc
      split at hc <;> simp at hc
    · simp at hc
  | makeMap t r => simp only [compOp] at hc; split at hc <;> simp at hc
  | insert _ _ _ _ => simp only [compOp] at hc; split at hc <;> simp [Option.bind_eq_some_iff] at hc
  | mapUpdate _ _ _ _ => simp only [compOp] at hc; split at hc <;> simp [Option.bind_eq_some_iff] at hc
  | lookup _ _ _ _ => simp only [compOp] at hc; split at hc <;> simp [Option.bind_eq_some_iff] at hc
  | makeSlice _ _ _ => simp only [compOp] at hc; split at hc <;> simp [Option.bind_eq_some_iff] at hc
  | _ => simp [compOp] at hc
end Go.Eng

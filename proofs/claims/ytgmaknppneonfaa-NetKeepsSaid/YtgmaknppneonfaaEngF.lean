/- The engine, sixth part: pure operations, as the model runs them. -/
import Derived.Test.YtgmaknppneonfaaEngE
set_option linter.unusedSimpArgs false
set_option linter.unusedVariables false
namespace Go.Eng
variable {P : Program}

/-- An operation's answer, the world as it was. -/
def Ans (P : Program) (a : Act) (o : Oper) (E : Env) (v : AVal) (w : World) : Prop := ∃ x, (execOp a.eval o).run P w = .ok (.value x) w ∧ cv E v = some x

theorem eq_finish {op : BinOp} {neg : Bool} (hop : op = if neg then .neq else .eql) {t : TypeId} {a b : Value} {ox oy : Operand} {r : Bool} {w : World} (h : ∀ d, (Op.equalIn (d + 1) t a b).run P w = .ok r w)
    (hg : eqGuard op t ox oy a b = pure ()) (hb : binOp op t a b = binOp op t a b) (hbe : binOp .eql t a b = (do pure (.bool (← Op.equal t a b)))) (hbn : binOp .neq t a b = (do pure (.bool (!(← Op.equal t a b))))) :
    ((do eqGuard op t ox oy a b; binOp op t a b : Sem Value)).run P w = .ok (.bool (if neg then !r else r)) w := by
  have h' : (Op.equal t a b).run P w = .ok r w := h 9999
  cases neg <;> (simp only [Bool.false_eq_true, if_false, if_true] at hop; subst hop; simp only [hg, hbe, hbn, Sem.run_bind, Sem.run_pure, Result.andThen_ok, h', Bool.false_eq_true, if_false, if_true])
set_option maxHeartbeats 4000000 in
theorem aeq_sound {E : Env} {op : BinOp} {neg : Bool} (hop : op = if neg then .neq else .eql) {t : TypeId} {k : EqK} (hk : eqK P t = some k) {x y : AVal} {r : Bool} {ox oy : Operand} {a b : Value} (ha : cv E x = some a) (hb : cv E y = some b)
    (h : aeq k x y = some r) (w : World) :
    ((do eqGuard op t ox oy a b; binOp op t a b : Sem Value)).run P w = .ok (.bool (if neg then !r else r)) w := by
  unfold eqK at hk
  cases hu : P.underlying t with
  | none => simp [hu] at hk
  | some u =>
    rw [hu] at hk
    cases u with
    | bool =>
      simp only [Option.some.injEq] at hk; subst hk
      cases x <;> cases y <;> simp only [aeq, cellEq, Option.some.injEq, reduceCtorEq] at h
      simp only [cv, Option.some.injEq] at ha hb; subst ha; subst hb; subst h
      exact eq_finish hop (fun d => run_equalIn_bool' w d t _ _ hu) (by cases op <;> rfl) rfl rfl rfl
    | pointer e =>
      simp only [Option.some.injEq] at hk; subst hk
      cases x <;> cases y <;> simp only [aeq, Option.some.injEq, reduceCtorEq] at h <;> subst h <;>
        (simp only [cv, Option.some.injEq, Option.map_eq_some_iff] at ha hb) <;>
        (try obtain ⟨l, hl, rfl⟩ := ha) <;> (try obtain ⟨l, hl, rfl⟩ := hb) <;> (try subst ha) <;> (try subst hb) <;>
        refine eq_finish hop (fun d => ?_) (by cases op <;> rfl) rfl rfl rfl <;> simp [Op.equalIn, run_underlying hu]
    | slice e =>
      simp only [Option.some.injEq] at hk; subst hk
      cases x <;> cases y <;> simp only [aeq, Option.some.injEq, reduceCtorEq] at h <;> subst h <;>
        (try (rename_i c; cases c)) <;>
        (simp only [cv, Option.some.injEq, Option.map_eq_some_iff] at ha hb) <;>
        (try obtain ⟨l, hl, rfl⟩ := ha) <;> (try obtain ⟨l, hl, rfl⟩ := hb) <;> (try subst ha) <;> (try subst hb) <;>
        refine eq_finish hop (fun d => ?_) (by cases op <;> rfl) rfl rfl rfl <;> simp [Op.equalIn, run_underlying hu]
    | map k' e =>
      simp only [Option.some.injEq] at hk; subst hk
      cases x <;> cases y <;> simp only [aeq, Option.some.injEq, reduceCtorEq] at h <;> subst h <;>
        (simp only [cv, Option.some.injEq, Option.map_eq_some_iff] at ha hb) <;>
        (try obtain ⟨l, hl, rfl⟩ := ha) <;> (try obtain ⟨l, hl, rfl⟩ := hb) <;> (try subst ha) <;> (try subst hb) <;>
        refine eq_finish hop (fun d => ?_) (by cases op <;> rfl) rfl rfl rfl <;> simp [Op.equalIn, run_underlying hu]
    | func p q vr =>
      simp only [Option.some.injEq] at hk; subst hk
      cases x <;> cases y <;> simp only [aeq, Option.some.injEq, reduceCtorEq] at h <;> subst h <;>
        (simp only [cv, Option.some.injEq, Option.map_eq_some_iff, Option.bind_eq_some_iff] at ha hb) <;>
        (try obtain ⟨l, hl, m, hm, rfl⟩ := ha) <;> (try obtain ⟨l, hl, m, hm, rfl⟩ := hb) <;> (try subst ha) <;> (try subst hb) <;>
        refine eq_finish hop (fun d => ?_) (by cases op <;> rfl) rfl rfl rfl <;> simp [Op.equalIn, run_underlying hu]
    | interface ms =>
      simp only [Option.some.injEq] at hk; subst hk
      cases x <;> cases y <;> simp only [aeq, Option.some.injEq, reduceCtorEq] at h <;> subst h <;>
        (simp only [cv, Option.some.injEq, Option.map_eq_some_iff] at ha hb) <;>
        (try obtain ⟨l, hl, rfl⟩ := ha) <;> (try obtain ⟨l, hl, rfl⟩ := hb) <;> (try subst ha) <;> (try subst hb) <;>
        refine eq_finish hop (fun d => ?_) (by cases op <;> rfl) rfl rfl rfl <;> simp [Op.equalIn, run_underlying hu]
    | struct fs =>
      simp only [] at hk
      by_cases hg : P.eqGuardType P.depth t = true
      · simp [hg] at hk
      · have hg : P.eqGuardType P.depth t = false := by simpa using hg
        simp only [hg, Bool.false_eq_true, if_false, Option.map_eq_some_iff] at hk
        obtain ⟨cs, hcs, rfl⟩ := hk
        cases x <;> cases y <;> simp only [aeq, reduceCtorEq] at h
        rename_i l m
        have hfl := flat_sound (E := E) 20 t cs 9980 hcs _ _ a b r w ha hb h (fun _ => ⟨_, _, rfl, rfl⟩) (fun k => by simp [aggT, hu] at k)
        simp only [cv, Option.map_eq_some_iff] at ha hb
        obtain ⟨xs, hx, rfl⟩ := ha
        obtain ⟨ys, hy, rfl⟩ := hb
        cases neg <;> (simp at hop; subst hop; simp only [Sem.run_bind, run_eqGuard_agg w _ t ox oy _ _ hg, Result.andThen_ok, run_eql_struct, run_neq_struct, hfl]; rfl)
    | array n e =>
      simp only [] at hk
      by_cases hg : P.eqGuardType P.depth t = true
      · simp [hg] at hk
      · have hg : P.eqGuardType P.depth t = false := by simpa using hg
        simp only [hg, Bool.false_eq_true, if_false, Option.map_eq_some_iff] at hk
        obtain ⟨cs, hcs, rfl⟩ := hk
        cases x <;> cases y <;> simp only [aeq, reduceCtorEq] at h
        rename_i l m
        have hfl := flat_sound (E := E) 20 t cs 9980 hcs _ _ a b r w ha hb h (fun _ => ⟨_, _, rfl, rfl⟩) (fun k => by simp [aggT, hu] at k)
        simp only [cv, Option.map_eq_some_iff] at ha hb
        obtain ⟨xs, hx, rfl⟩ := ha
        obtain ⟨ys, hy, rfl⟩ := hb
        cases neg <;> (simp at hop; subst hop; simp only [Sem.run_bind, run_eqGuard_agg w _ t ox oy _ _ hg, Result.andThen_ok, run_eql_struct, run_neq_struct, hfl]; rfl)
    | _ => simp at hk

/-! ### Aggregates -/
theorem placeA_sound {E : Env} {cs vs : List AVal} {arr : Array Value} {xs : List Value} (hc : cvs E cs = some arr.toList) (hv : cvs E vs = some xs) (off : Nat) (hb : off + vs.length ≤ cs.length) :
    cvs E (placeA cs off vs) = some ((xs.zipIdx.foldl (fun (c : Array Value) (p : Value × Nat) => c.setIfInBounds (off + p.2) p.1) arr).toList) := by
  have hl := cvs_length hv
  have hcl := cvs_length hc
  have key : ∀ (xs : List Value) (k : Nat) (arr : Array Value), off + k + xs.length ≤ arr.size →
      ((xs.zipIdx k).foldl (fun (c : Array Value) (p : Value × Nat) => c.setIfInBounds (off + p.2) p.1) arr).toList = arr.toList.take (off + k) ++ xs ++ arr.toList.drop (off + k + xs.length) := by
    intro xs
    induction xs with
    | nil => intro k arr h; simp
    | cons x xs ih =>
      intro k arr h
      simp only [List.zipIdx_cons, List.foldl_cons]
      rw [ih (k + 1) _ (by simp at h ⊢; omega)]
      simp only [Array.toList_setIfInBounds, List.length_cons]
      have hk : off + k < arr.toList.length := by simp at h ⊢; omega
      have e1 : (arr.toList.set (off + k) x).take (off + (k + 1)) = arr.toList.take (off + k) ++ [x] := by
        rw [show off + (k + 1) = off + k + 1 by omega, List.take_succ_eq_append_getElem (by simpa using hk), List.take_set_of_le (by omega), List.getElem_set_self]
      have e2 : (arr.toList.set (off + k) x).drop (off + (k + 1) + xs.length) = arr.toList.drop (off + k + (xs.length + 1)) := by
        rw [List.drop_set_of_lt (by omega)]; congr 1; omega
      rw [e1, e2]
      simp
  have := key xs 0 arr (by simp at hcl; omega)
  rw [this]
  simp only [Nat.add_zero, hl]
  exact cvs_append (cvs_append (cvs_take off hc) hv) (cvs_drop _ hc)
theorem fillA_sound {E : Env} {τ : Tm} {a : Act} (T : TRel E τ a.tmps) {pl : Nat → Option (Nat × Nat)} :
    ∀ {l : List (Nat × Operand)} {cl : List (Nat × Nat × Opd)} {cs ds : List AVal} {arr : Array Value}, compParts pl l = some cl → fillA τ cl cs = some ds → cvs E cs = some arr.toList →
      ∃ brr, Instr.fill pl arr (l.map fun (i, x) => (i, a.eval x)) = some brr ∧ cvs E ds = some brr.toList
  | [], cl, cs, ds, arr, hl, h, hc => by
    simp only [compParts, Option.some.injEq] at hl; subst hl
    simp only [fillA, Option.some.injEq] at h; subst h
    exact ⟨arr, rfl, hc⟩
  | (i, x) :: l, cl, cs, ds, arr, hl, h, hc => by
    simp only [compParts, Option.bind_eq_some_iff, Option.map_eq_some_iff] at hl
    obtain ⟨⟨off, sz⟩, hp, c, hx, r, hr, rfl⟩ := hl
    simp only [fillA, Option.bind_eq_some_iff] at h
    obtain ⟨v, hv, h⟩ := h
    by_cases hb : v.cells.length = sz ∧ off + sz ≤ cs.length
    · rw [if_pos hb] at h
      have hcv := cvs_cells (ev_sound T hx hv)
      have hlen := cvs_length hcv
      have hcl := cvs_length hc
      have hcomp := placeA_sound hc hcv off (by omega)
      obtain ⟨brr, hb1, hb2⟩ := fillA_sound T hr h hcomp
      refine ⟨brr, ?_, hb2⟩
      simp only [List.map_cons, Instr.fill, hp]
      simp only [Array.length_toList] at hlen hcl
      rw [if_neg (by simp only [Bool.or_eq_true, decide_eq_true_eq, not_or]; omega)]
      have : (a.eval x).cells.zipIdx.foldl (fun (cs : Array Value) (p : Value × Nat) => cs.setIfInBounds (off + p.2) p.1) arr = ((a.eval x).cells.toList.zipIdx.foldl (fun (cs : Array Value) (p : Value × Nat) => cs.setIfInBounds (off + p.2) p.1) arr) := by
        rw [← Array.foldl_toList, Array.toList_zipIdx]
      rw [show ((a.eval x).cells.zipIdx.foldl (fun cs (x : Value × Nat) => match x with | (c, j) => cs.setIfInBounds (off + j) c) arr) = ((a.eval x).cells.toList.zipIdx.foldl (fun (cs : Array Value) (p : Value × Nat) => cs.setIfInBounds (off + p.2) p.1) arr) from this]
      exact hb1
    · rw [if_neg hb] at h; simp at h

/-! ### Bounds -/
theorem mx3_sound {E : Env} {v : AVal} {x : Value} {cap m : Nat} (hx : cv E v = some x) (h : mx3 cap v = some m) : ∃ k j, x = .int k j ∧ 0 ≤ j ∧ j ≤ (cap : Int) ∧ m = j.toNat := by
  cases v <;> simp only [mx3, reduceCtorEq] at h
  rename_i k j
  by_cases hj : 0 ≤ j ∧ j ≤ (cap : Int)
  · rw [if_pos hj, Option.some.injEq] at h
    simp only [cv, Option.some.injEq] at hx
    exact ⟨k, j, hx.symm, hj.1, hj.2, h.symm⟩
  · rw [if_neg hj] at h; simp at h
theorem abounds_sound3 {E : Env} {τ : Tm} {a : Act} (T : TRel E τ a.tmps) {isSlice : Bool} {len cap : Nat} {lo : Option Operand} {cl : Option Opd} {vl : Option AVal} {hv mv : AVal} {hw mw : Value} (h1 : compOpt lo = some cl) (h2 : evo τ cl = some vl) (eh : cv E hv = some hw) (em : cv E mv = some mw)
    {l h m : Nat} (hm : mx3 cap mv = some m) (hb : abounds len m vl (some hv) = some (l, h)) (w : World) : (Instr.sliceBounds isSlice len cap (lo.map a.eval) (some hw) (some mw)).run P w = .ok (l, h, m) w ∧ l ≤ h ∧ h ≤ m ∧ m ≤ cap := by
  have el := evo_sound T h1 h2
  obtain ⟨km, jm, rfl, hj0, hj1, rfl⟩ := mx3_sound em hm
  simp only [abounds, Option.bind_eq_some_iff] at hb
  obtain ⟨h', hh, hb⟩ := hb
  cases hv <;> simp only [reduceCtorEq] at hh
  rename_i k i
  by_cases hi : 0 ≤ i ∧ i ≤ (jm.toNat : Int)
  · rw [if_pos hi] at hh
    simp only [Option.some.injEq] at hh; subst hh
    simp only [cv, Option.some.injEq] at eh
    have hi' : 0 ≤ i ∧ i ≤ jm := by omega
    have hjm : 0 ≤ jm ∧ jm ≤ (cap : Int) := ⟨hj0, hj1⟩
    have hmj : max jm 0 = jm := by omega
    have hmi : max i 0 = i := by omega
    rcases el with ⟨rfl, rfl⟩ | ⟨z, q, rfl, rfl, hq⟩
    · simp only [Option.some.injEq, Prod.mk.injEq] at hb
      obtain ⟨rfl, rfl⟩ := hb
      refine ⟨?_, by omega, by omega, by omega⟩
      simp [Instr.sliceBounds, Instr.sliceBound, ← eh, asIntOf, hi', hjm, hmj]
    · cases q <;> simp only [reduceCtorEq] at hb
      rename_i k' j
      by_cases hj : 0 ≤ j ∧ j ≤ (i.toNat : Int)
      · rw [if_pos hj] at hb
        simp only [Option.some.injEq, Prod.mk.injEq] at hb
        obtain ⟨rfl, rfl⟩ := hb
        simp only [cv, Option.some.injEq] at hq
        refine ⟨?_, by omega, by omega, by omega⟩
        have hj' : 0 ≤ j ∧ j ≤ i := by omega
        simp [Instr.sliceBounds, Instr.sliceBound, ← eh, ← hq, asIntOf, hi', hjm, hj', hmj, hmi]
      · rw [if_neg hj] at hb; simp at hb
  · rw [if_neg hi] at hh; simp at hh
theorem abounds_sound {E : Env} {τ : Tm} {a : Act} (T : TRel E τ a.tmps) {isSlice : Bool} {len cap : Nat} {lo hi : Option Operand} {cl ch : Option Opd} {vl vh : Option AVal} (h1 : compOpt lo = some cl) (h2 : evo τ cl = some vl) (h3 : compOpt hi = some ch) (h4 : evo τ ch = some vh)
    {l h : Nat} (hb : abounds len cap vl vh = some (l, h)) (w : World) : (Instr.sliceBounds isSlice len cap (lo.map a.eval) (hi.map a.eval) none).run P w = .ok (l, h, cap) w ∧ l ≤ h ∧ (h ≤ cap ∨ h = len) := by
  have el := evo_sound T h1 h2
  have eh := evo_sound T h3 h4
  simp only [abounds, Option.bind_eq_some_iff] at hb
  obtain ⟨h', hh, hb⟩ := hb
  rcases eh with ⟨rfl, rfl⟩ | ⟨y, u, rfl, rfl, hu⟩
  · simp only [Option.some.injEq] at hh; subst hh
    rcases el with ⟨rfl, rfl⟩ | ⟨z, q, rfl, rfl, hq⟩
    · simp only [Option.some.injEq, Prod.mk.injEq] at hb
      obtain ⟨rfl, rfl⟩ := hb
      exact ⟨by simp [Instr.sliceBounds], by omega, .inr rfl⟩
    · cases q <;> simp only [reduceCtorEq] at hb
      rename_i k i
      by_cases hi : 0 ≤ i ∧ i ≤ (len : Int)
      · rw [if_pos hi] at hb
        simp only [Option.some.injEq, Prod.mk.injEq] at hb
        obtain ⟨rfl, rfl⟩ := hb
        simp only [cv, Option.some.injEq] at hq
        refine ⟨?_, by omega, .inr rfl⟩
        simp [Instr.sliceBounds, Instr.sliceBound, ← hq, asIntOf, hi]
      · rw [if_neg hi] at hb; simp at hb
  · cases u <;> simp only [reduceCtorEq] at hh
    rename_i k i
    by_cases hi : 0 ≤ i ∧ i ≤ (cap : Int)
    · rw [if_pos hi] at hh
      simp only [Option.some.injEq] at hh; subst hh
      simp only [cv, Option.some.injEq] at hu
      rcases el with ⟨rfl, rfl⟩ | ⟨z, q, rfl, rfl, hq⟩
      · simp only [Option.some.injEq, Prod.mk.injEq] at hb
        obtain ⟨rfl, rfl⟩ := hb
        refine ⟨?_, by omega, .inl (by omega)⟩
        simp [Instr.sliceBounds, Instr.sliceBound, ← hu, asIntOf, hi]
      · cases q <;> simp only [reduceCtorEq] at hb
        rename_i k' j
        by_cases hj : 0 ≤ j ∧ j ≤ (i.toNat : Int)
        · rw [if_pos hj] at hb
          simp only [Option.some.injEq, Prod.mk.injEq] at hb
          obtain ⟨rfl, rfl⟩ := hb
          simp only [cv, Option.some.injEq] at hq
          refine ⟨?_, by omega, .inl (by omega)⟩
          have hj' : 0 ≤ j ∧ j ≤ i := by omega
          simp [Instr.sliceBounds, Instr.sliceBound, ← hu, ← hq, asIntOf, hi, hj']
          omega
        · rw [if_neg hj] at hb; simp at hb
    · rw [if_neg hi] at hh; simp at hh
end Go.Eng

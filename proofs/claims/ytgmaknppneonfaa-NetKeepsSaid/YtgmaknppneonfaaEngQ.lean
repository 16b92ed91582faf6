/- The engine, seventeenth part: regions in any order: what the text's order tells, and what a set of operations has done. -/
import Derived.Test.YtgmaknppneonfaaEngP
set_option linter.unusedSimpArgs false
set_option linter.unusedVariables false
namespace Go.Eng
variable {P : Program}

theorem pairsBeq_eq : ∀ (l m : List (AVal × AVal)), pairsBeq l m = true → l = m
  | [], [], _ => rfl
  | [], _ :: _, h => by simp [pairsBeq] at h
  | _ :: _, [], h => by simp [pairsBeq] at h
  | (a, b) :: l, (c, d) :: m, h => by
    simp only [pairsBeq, Bool.and_eq_true] at h
    rw [AVal.eq_of_beq a c h.1.1, AVal.eq_of_beq b d h.1.2, pairsBeq_eq l m h.2]
theorem ABlk.eq_of_beq {a b : ABlk} (h : ABlk.beq a b = true) : a = b := by
  cases a <;> cases b <;> simp only [ABlk.beq, Bool.and_eq_true, Nat.beq_eq, decide_eq_true_eq, Bool.false_eq_true] at h
  · obtain ⟨⟨⟨h1, h2⟩, h3⟩, h4⟩ := h
    rw [AVal.eq_of_beqs _ _ h1, h2, h3, h4]
  · rw [pairsBeq_eq _ _ h]
theorem optBeq_eq {a : Option AVal} {b : AVal} (h : optBeq a b = true) : a = some b := by
  cases a with
  | none => simp [optBeq] at h
  | some a => simp only [optBeq] at h; rw [AVal.eq_of_beq a b h]

/-! ### Who stands ahead of whom -/
theorem foldl_mask_testBit (acc : List Nat) (i : Nat) : ∀ (l : List Edge) (s : Nat), (l.foldl (fun s e => if Region.binds .any e then s ||| 2 ^ e.on ||| acc.getD e.on 0 else s) s).testBit i = true →
    s.testBit i = true ∨ ∃ e ∈ l, Region.binds .any e = true ∧ (e.on = i ∨ (acc.getD e.on 0).testBit i = true)
  | [], s, h => .inl h
  | e :: l, s, h => by
    simp only [List.foldl_cons] at h
    rcases foldl_mask_testBit acc i l _ h with h1 | ⟨e', h1, h2⟩
    · by_cases hb : Region.binds .any e = true
      · rw [if_pos hb] at h1
        simp only [Nat.testBit_or, Bool.or_eq_true, Nat.testBit_two_pow, decide_eq_true_eq] at h1
        rcases h1 with (h1 | h1) | h1
        · exact .inl h1
        · exact .inr ⟨e, by simp, hb, .inl h1⟩
        · exact .inr ⟨e, by simp, hb, .inr h1⟩
      · rw [if_neg hb] at h1; exact .inl h1
    · exact .inr ⟨e', by simp [h1], h2⟩
theorem preOf_get : ∀ (l : List Oper) (acc : List Nat) (j : Nat), j < acc.length → (preOf l acc).getD j 0 = acc.getD j 0
  | [], acc, j, h => rfl
  | o :: l, acc, j, h => by
    simp only [preOf]
    rw [preOf_get l _ j (by simp; omega)]
    simp [List.getElem?_append_left h]
theorem preOf_at : ∀ (l : List Oper) (acc : List Nat) (k : Nat) (o : Oper), l[k]? = some o → ∃ acc', (preOf l acc).getD (acc.length + k) 0 = mask acc' o ∧ acc'.length = acc.length + k ∧ ∀ j, j < acc.length + k → acc'.getD j 0 = (preOf l acc).getD j 0
  | [], acc, k, o, h => by simp at h
  | p :: l, acc, 0, o, h => by
    simp only [List.getElem?_cons_zero, Option.some.injEq] at h; subst h
    refine ⟨acc, ?_, rfl, fun j hj => ?_⟩
    · simp only [preOf, Nat.add_zero]
      rw [preOf_get l _ acc.length (by simp)]
      simp
    · simp only [preOf]
      rw [preOf_get l _ j (by simp; omega)]
      simp only [List.getD_eq_getElem?_getD]
      rw [List.getElem?_append_left (by omega)]
  | p :: l, acc, k + 1, o, h => by
    simp only [List.getElem?_cons_succ] at h
    obtain ⟨acc', h1, h2, h3⟩ := preOf_at l (acc ++ [mask acc p]) k o h
    simp only [List.length_append, List.length_singleton] at h1 h2 h3
    refine ⟨acc', by simp only [preOf]; rw [show acc.length + (k + 1) = acc.length + 1 + k by omega]; exact h1, by omega, fun j hj => ?_⟩
    simp only [preOf]
    exact h3 j (by omega)
/-- A set of operations that holds with each what stands ahead of it. -/
def Down (ops : Array Oper) (S : Nat → Bool) : Prop := ∀ i o, ops[i]? = some o → S i = true → ∀ e ∈ o.after.toList, Region.binds .any e = true → S e.on = true
theorem ahead_in {ops : Array Oper} {S : Nat → Bool} (hd : Down ops S) (hlt : ∀ i o, ops[i]? = some o → ∀ e ∈ o.after.toList, Region.binds .any e = true → e.on < i) :
    ∀ (j : Nat) (o : Oper), ops[j]? = some o → (∀ e ∈ o.after.toList, Region.binds .any e = true → S e.on = true) → ∀ i, ahead (preOf ops.toList []) i j = true → S i = true := by
  intro j
  induction j using Nat.strongRecOn with
  | _ j ih =>
    intro o ho hS i hi
    obtain ⟨acc', h1, h2, h3⟩ := preOf_at ops.toList [] j o (by rw [Array.getElem?_toList]; exact ho)
    simp only [List.length_nil, Nat.zero_add] at h1 h2 h3
    unfold ahead at hi
    rw [h1] at hi
    unfold mask at hi
    rcases foldl_mask_testBit acc' i _ 0 hi with h | ⟨e, he, hb, h⟩
    · simp at h
    · have hon := hlt j o ho e he hb
      have hSe := hS e he hb
      rcases h with h | h
      · rw [← h]; exact hSe
      · rw [h3 e.on hon] at h
        have hosz : j < ops.size := by
          rcases Nat.lt_or_ge j ops.size with h | h
          · exact h
          · rw [Array.getElem?_eq_none h] at ho; simp at ho
        have ho' : ops[e.on]? = some ops[e.on] := by simp
        exact ih e.on hon _ ho' (fun e' he' hb' => hd e.on _ ho' hSe e' he' hb') i h

/-! ### The run in the text's order -/
structure Trace (P : Program) (Φ : Phi) (nt : Nat) (ops : Array Oper) (st : Nat → ASt) (val : Nat → AVal) (evt : Nat → Ev) : Prop where
  step : ∀ i o, ops[i]? = some o → ∃ co, compOper P nt ops o = some co ∧ astepD Φ co (opUses ops o) (st i) = some (st (i + 1), val i, evt i)
theorem trace_of {Φ : Phi} {nt : Nat} {ops : Array Oper} : ∀ (l : List Oper) (cl : List COper) (k : Nat), (∀ j, ops[k + j]? = l[j]?) → l.mapM (compOper P nt ops) = some cl → ∀ (s sN : ASt) (es : List Ev), atrace Φ (cl.zip (l.map (opUses ops))) s = some (sN, es) →
    ∃ (st : Nat → ASt) (val : Nat → AVal) (evt : Nat → Ev), st k = s ∧ st (k + l.length) = sN ∧ es.length = l.length ∧ (∀ i, i < l.length → es[i]? = some (evt (k + i))) ∧
      ∀ i o, k ≤ i → ops[i]? = some o → ∃ co, cl[i - k]? = some co ∧ compOper P nt ops o = some co ∧ astepD Φ co (opUses ops o) (st i) = some (st (i + 1), val i, evt i)
  | [], cl, k, hk, hc, s, sN, es, h => by
    simp at hc; subst hc
    simp only [List.map_nil, List.zip_nil_left, atrace, Option.some.injEq, Prod.mk.injEq] at h
    obtain ⟨rfl, rfl⟩ := h
    refine ⟨fun _ => s, fun _ => undefA, fun _ => .p, rfl, rfl, rfl, fun i hi => by simp at hi, fun i o hi ho => ?_⟩
    have := hk (i - k)
    rw [show k + (i - k) = i by omega, ho] at this
    simp at this
  | o :: l, cl, k, hk, hc, s, sN, es, h => by
    simp only [List.mapM_cons, Option.pure_def, Option.bind_eq_bind, Option.bind_eq_some_iff, Option.some.injEq] at hc
    obtain ⟨co, hco, cr, hcr, rfl⟩ := hc
    simp only [List.map_cons, List.zip_cons_cons, atrace, Option.bind_eq_some_iff, Option.map_eq_some_iff, Prod.exists, Prod.mk.injEq] at h
    obtain ⟨s1, v, e, hs, s2, er, hr, rfl, rfl⟩ := h
    obtain ⟨st, val, evt, h1, h2, h3, h4, h5⟩ := trace_of l cr (k + 1) (fun j => by have := hk (j + 1); rw [show k + 1 + j = k + (j + 1) by omega, this]; rfl) hcr s1 _ er hr
    refine ⟨fun i => if i = k then s else st i, fun i => if i = k then v else val i, fun i => if i = k then e else evt i, by simp, ?_, by simp [h3], ?_, ?_⟩
    · show (if k + (o :: l).length = k then s else st (k + (o :: l).length)) = s2
      rw [if_neg (by simp only [List.length_cons]; omega), ← h2]; simp only [List.length_cons]; congr 1; omega
    · intro i hi
      cases i with
      | zero => simp
      | succ i =>
        simp only [List.length_cons] at hi
        show (e :: er)[i + 1]? = some (if k + (i + 1) = k then e else evt (k + (i + 1)))
        rw [if_neg (by omega), List.getElem?_cons_succ, h4 i (by omega)]
        congr 2; omega
    · intro i o' hi ho'
      by_cases e' : i = k
      · subst e'
        have := hk 0
        rw [Nat.add_zero, ho'] at this
        simp only [List.getElem?_cons_zero, Option.some.injEq] at this; subst this
        refine ⟨co, by simp, hco, ?_⟩
        simp only [if_true]
        rw [if_neg (by omega), h1]; exact hs
      · obtain ⟨c', hc1, hc2, hc3⟩ := h5 i o' (by omega) ho'
        refine ⟨c', ?_, hc2, ?_⟩
        · rw [show i - k = (i - (k + 1)) + 1 by omega, List.getElem?_cons_succ]; exact hc1
        · show astepD Φ c' (opUses ops o') (if i = k then s else st i) = some (if i + 1 = k then s else st (i + 1), if i = k then v else val i, if i = k then e else evt i)
          rw [if_neg e', if_neg e', if_neg e', if_neg (by omega)]; exact hc3

theorem aal_rw {τ : Tm} {c : AOp} {blk : ABlk} {f : Nat → AVal} (h : aal τ c = some (blk, f)) : blk.rw = true := by
  cases c with
  | box e es x =>
    simp only [aal, Option.bind_eq_some_iff] at h
    obtain ⟨_, _, h⟩ := h
    split at h
    · simp only [Option.some.injEq, Prod.mk.injEq] at h; rw [← h.1]; rfl
    · simp at h
  | alloc e z =>
    simp only [aal] at h
    split at h
    · simp only [Option.some.injEq, Prod.mk.injEq] at h; rw [← h.1]; rfl
    · simp at h
  | buildSlice e es i l p =>
    simp only [aal, Option.bind_eq_some_iff] at h
    obtain ⟨_, _, h⟩ := h
    split at h
    · simp only [Option.some.injEq, Prod.mk.injEq] at h; rw [← h.1]; rfl
    · simp at h
  | makeSlice e es by_ z l c =>
    simp only [aal] at h
    split at h
    · split at h
      · simp only [Option.some.injEq, Prod.mk.injEq] at h; rw [← h.1]; rfl
      · simp at h
    · simp at h
  | makeMap r =>
    simp only [aal] at h
    split at h
    · simp only [Option.some.injEq, Prod.mk.injEq] at h; rw [← h.1]; rfl
    · simp only [Option.some.injEq, Prod.mk.injEq] at h; rw [← h.1]; rfl
    · simp at h
  | bytes e x =>
    simp only [aal] at h
    split at h
    · simp only [Option.some.injEq, Prod.mk.injEq] at h; rw [← h.1]; rfl
    · simp at h
/-- What a step in the text's order does. -/
structure StepFacts (Φ : Phi) (o : Oper) (co : COper) (s s' : ASt) (v : AVal) (e : Ev) : Prop where
  tm : s'.tm = put o.dst v s.tm
  n : s.H.n ≤ s'.H.n
  wf : s.H.wf → s'.H.wf
  p : e = .p → s'.H = s.H ∧ s'.ds = s.ds
  r : ∀ b n g u, e = .r b n g u → s'.H = s.H ∧ s'.ds = s.ds ∧ n = s.H.n ∧ g (s.H.get b) = some u ∧ co.op.isR = true
  a : ∀ id blk, e = .a id blk → id = s.H.n ∧ s'.H = s.H.push blk ∧ s'.ds = s.ds ∧ co.op.isA = true ∧ blk.rw = true
  x : ∀ Hb Ha, e = .x Hb Ha → Hb = s.H ∧ Ha = s'.H ∧ co.op.isX = true
theorem step_facts {Φ : Phi} (hΦ : ∀ f, Sound P f (Φ f)) {nt : Nat} {ops : Array Oper} {o : Oper} {co : COper} (hc : compOper P nt ops o = some co) {us : List Nat} {s s' : ASt} {v : AVal} {e : Ev} (h : astepD Φ co us s = some (s', v, e)) : StepFacts Φ o co s s' v e := by
  obtain ⟨_, hdst, _, _⟩ := comp_oper hc
  unfold astepD at h
  split at h
  · simp only [Option.map_eq_some_iff, Prod.exists, Prod.mk.injEq] at h
    obtain ⟨v', H', ds', e', ha, rfl, rfl, rfl⟩ := h
    have hn := aop_n hΦ ha
    have hcase : (e' = .p → H' = s.H ∧ ds' = s.ds) ∧ (∀ b n g u, e' = .r b n g u → H' = s.H ∧ ds' = s.ds ∧ n = s.H.n ∧ g (s.H.get b) = some u ∧ co.op.isR = true) ∧ (∀ id blk, e' = .a id blk → id = s.H.n ∧ H' = s.H.push blk ∧ ds' = s.ds ∧ co.op.isA = true ∧ blk.rw = true) ∧ (∀ Hb Ha, e' = .x Hb Ha → Hb = s.H ∧ Ha = H' ∧ co.op.isX = true) := by
      cases hop : co.op with
      | p c =>
        rw [hop] at ha
        simp only [aop, Option.map_eq_some_iff, Prod.mk.injEq] at ha; obtain ⟨_, _, rfl, rfl, rfl, rfl⟩ := ha
        exact ⟨fun _ => ⟨rfl, rfl⟩, by simp, by simp, by simp⟩
      | r c =>
        rw [hop] at ha
        simp only [aop] at ha
        split at ha
        · simp only [Option.map_eq_some_iff, Prod.mk.injEq] at ha; obtain ⟨_, _, rfl, rfl, rfl, rfl⟩ := ha
          exact ⟨fun _ => ⟨rfl, rfl⟩, by simp, by simp, by simp⟩
        · simp only [Option.map_eq_some_iff, Prod.mk.injEq] at ha; obtain ⟨u, hu, rfl, rfl, rfl, rfl⟩ := ha
          refine ⟨by simp, fun b n g u' h => ?_, by simp, by simp⟩
          simp only [Ev.r.injEq] at h
          obtain ⟨rfl, rfl, rfl, rfl⟩ := h
          exact ⟨rfl, rfl, rfl, hu, rfl⟩
        · simp at ha
      | a c =>
        rw [hop] at ha
        simp only [aop, Option.map_eq_some_iff, Prod.exists, Prod.mk.injEq] at ha; obtain ⟨_, _, haal, rfl, rfl, rfl, rfl⟩ := ha
        refine ⟨by simp, by simp, fun id blk h => ?_, by simp⟩
        simp only [Ev.a.injEq] at h
        obtain ⟨rfl, rfl⟩ := h
        exact ⟨rfl, rfl, rfl, rfl, aal_rw haal⟩
      | x c =>
        rw [hop] at ha
        simp only [aop, Option.map_eq_some_iff, Prod.exists, Prod.mk.injEq] at ha; obtain ⟨_, _, _, _, rfl, rfl, rfl, rfl⟩ := ha
        refine ⟨by simp, by simp, by simp, fun Hb Ha h => ?_⟩
        simp only [Ev.x.injEq] at h
        obtain ⟨rfl, rfl⟩ := h
        exact ⟨rfl, rfl, rfl⟩
    obtain ⟨h1, h2, h3, h4⟩ := hcase
    exact ⟨by rw [hdst], hn.1, hn.2, h1, h2, h3, h4⟩
  · simp only [Option.some.injEq, Prod.mk.injEq] at h
    obtain ⟨rfl, rfl, rfl⟩ := h
    exact ⟨by rw [hdst], Nat.le_refl _, id, fun _ => ⟨rfl, rfl⟩, by simp, by simp, by simp⟩
  · simp at h

/-! ### What a set of operations has done -/
section
variable (ops : Array Oper) (st : Nat → ASt) (val : Nat → AVal) (evt : Nat → Ev) (S : Nat → Bool) (nB : Nat)
def cur : Nat → Nat → Option AVal
  | 0, t => lk (st 0).tm t
  | k + 1, t => if S k = true ∧ (ops[k]?).bind (·.dst) = some t then some (val k) else cur k t
def heapS : Nat → AHeap
  | 0 => { (st 0).H with n := nB }
  | k + 1 => if S k = true then (match evt k with
    | .x _ Ha => { Ha with n := nB }
    | .a id blk => { n := nB, m := (heapS k).m.set id blk }
    | _ => heapS k) else heapS k
def dsS : Nat → Dfs
  | 0 => (st 0).ds
  | k + 1 => if S k = true then (match evt k with
    | .x _ _ => (st (k + 1)).ds
    | _ => dsS k) else dsS k
end
theorem get_withN (H : AHeap) (n : Nat) (b : Nat) : ({ H with n := n } : AHeap).get b = H.get b := rfl
theorem get_setM (H : AHeap) (n id : Nat) (blk : ABlk) (b : Nat) : ({ n := n, m := H.m.set id blk } : AHeap).get b = if b = id then blk else H.get b := by
  simp only [AHeap.get, PM.get_set]; by_cases h : b = id <;> simp [h]
end Go.Eng

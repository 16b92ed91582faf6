/- The engine, nineteenth part: regions in any order are sound. -/
import Derived.Test.YtgmaknppneonfaaEngR
set_option linter.unusedSimpArgs false
set_option linter.unusedVariables false
namespace Go.Eng
variable {P : Program}

structure Grow (E : Env) (H : AHeap) (w : World) (E' : Env) (H' : AHeap) (w' : World) : Prop where
  le : E.le E'
  size : w.heap.size ≤ w'.heap.size
  os : w'.os = w.os
  tape : w'.tape = w.tape
  output : w'.output = w.output
  frame : ∀ c, c < w.heap.size → (∀ b l, E b = some l → l.blk = c → (H.get b).rw = false) → w'.heap[c]? = w.heap[c]?
  loc : ∀ b l, E' b = some l → E b = none → w.heap.size ≤ l.blk ∨ ∃ c k, E c = some k ∧ k.blk = l.blk ∧ (H.get c).rw = true
  mono : ∀ b, E b ≠ none → (H.get b).rw = false → (H'.get b).rw = false
  dead : ∀ b, E b ≠ none → (H.get b).alive = false → (H'.get b).alive = false
theorem Grow.refl (E : Env) (H : AHeap) (w : World) : Grow E H w E H w := ⟨Env.le_refl E, Nat.le_refl _, rfl, rfl, rfl, fun _ _ _ => rfl, fun b l h k => by simp [h] at k, fun _ _ h => h, fun _ _ h => h⟩
theorem Grow.trans {E F G : Env} {H I J : AHeap} {u v w : World} (h : Grow E H u F I v) (k : Grow F I v G J w) : Grow E H u G J w where
  le := Env.le_trans h.le k.le
  size := Nat.le_trans h.size k.size
  os := k.os.trans h.os
  tape := k.tape.trans h.tape
  output := k.output.trans h.output
  frame c hc hE := by
    rw [k.frame c (Nat.lt_of_lt_of_le hc h.size) ?_]
    · exact h.frame c hc hE
    · intro b l hb hl
      cases he : E b with
      | none =>
        rcases h.loc b l hb he with h1 | ⟨d, m, h1, h2, h3⟩
        · omega
        · have := hE d m h1 (by omega); simp [this] at h3
      | some m =>
        have := h.le b m he
        rw [this] at hb; simp only [Option.some.injEq] at hb; subst hb
        exact h.mono b (by simp [he]) (hE b m he hl)
  loc b l hb he := by
    cases hf : F b with
    | none =>
      rcases k.loc b l hb hf with h1 | ⟨c, m, h1, h2, h3⟩
      · exact .inl (Nat.le_trans h.size h1)
      · cases hc : E c with
        | none => rw [← h2]; exact h.loc c m h1 hc
        | some q =>
          have := h.le c q hc
          rw [this] at h1; simp only [Option.some.injEq] at h1; subst h1
          refine .inr ⟨c, q, hc, h2, ?_⟩
          cases hr : (H.get c).rw with
          | true => rfl
          | false => have := h.mono c (by simp [hc]) hr; simp [this] at h3
    | some m =>
      have := k.le b m hf
      rw [this] at hb; simp only [Option.some.injEq] at hb; subst hb
      exact h.loc b m hf he
  mono b hb hr := by
    refine k.mono b ?_ (h.mono b hb hr)
    cases he : E b with
    | none => exact absurd he hb
    | some m => rw [h.le b m he]; simp
  dead b hb hr := by
    refine k.dead b ?_ (h.dead b hb hr)
    cases he : E b with
    | none => exact absurd he hb
    | some m => rw [h.le b m he]; simp

theorem comp_invR {op : Op} {c : ROp} (hc : compOp P op = some (.r c)) : ∃ y x, compOpd y = some x ∧ (match c with | .load _ _ z => z = x | .lookup _ _ _ z _ => z = x | .lenM z => z = x | .slice _ z _ _ => z = x | .slice3 _ z _ _ _ => z = x | .strOf z => z = x) := by
  cases op with
  | load t x =>
    simp only [compOp, Option.bind_eq_some_iff] at hc
    obtain ⟨x', hx, hc⟩ := hc
    split at hc
    · simp only [Option.map_eq_some_iff, COp.r.injEq] at hc; obtain ⟨_, _, rfl⟩ := hc; exact ⟨x, x', hx, rfl⟩
    · split at hc
      · simp only [Option.some.injEq, COp.r.injEq] at hc; subst hc; exact ⟨x, x', hx, rfl⟩
      · simp at hc
  | lookup t x i ok =>
    simp only [compOp] at hc
    split at hc
    · simp only [Option.bind_eq_some_iff, Option.map_eq_some_iff, COp.r.injEq] at hc
      obtain ⟨_, _, _, _, x', hx, _, _, rfl⟩ := hc
      exact ⟨x, x', hx, rfl⟩
    · simp at hc
  | slice t x lo hi mx =>
    cases mx with
    | some m =>
      cases hi with
      | none => simp [compOp] at hc
      | some hi =>
        simp only [compOp, Option.bind_eq_some_iff] at hc
        obtain ⟨x', hx, _, _, _, _, _, _, hc⟩ := hc
        split at hc
        · simp only [Option.map_eq_some_iff, COp.r.injEq] at hc; obtain ⟨_, _, rfl⟩ := hc; exact ⟨x, x', hx, rfl⟩
        · simp at hc
    | none =>
      simp only [compOp, Option.bind_eq_some_iff] at hc
      obtain ⟨x', hx, _, _, _, _, hc⟩ := hc
      split at hc
      · simp at hc
      · simp only [Option.map_eq_some_iff, COp.r.injEq] at hc; obtain ⟨_, _, rfl⟩ := hc; exact ⟨x, x', hx, rfl⟩
      · simp only [Option.map_eq_some_iff] at hc; obtain ⟨_, _, hc⟩ := hc; simp at hc
      · simp at hc
  | convert s d x =>
    simp only [compOp, Option.bind_eq_some_iff] at hc
    obtain ⟨x', hx, hc⟩ := hc
    split at hc
    · simp at hc
    · simp at hc
    · split at hc
      · simp only [Option.some.injEq, COp.r.injEq] at hc; subst hc; exact ⟨x, x', hx, rfl⟩
      · simp at hc
    · split at hc <;> simp at hc
    · simp at hc
  | call cl =>
    simp only [compOp, Option.bind_eq_some_iff] at hc
    obtain ⟨l, hl, hc⟩ := hc
    obtain ⟨callee, args, argTypes⟩ := cl
    cases callee with
    | value x =>
      cases x with
      | func f => simp only [] at hc; split at hc <;> simp at hc
      | _ => simp only [Option.map_eq_some_iff] at hc; obtain ⟨_, _, hc⟩ := hc; simp at hc
    | invoke x n => simp only [Option.map_eq_some_iff] at hc; obtain ⟨_, _, hc⟩ := hc; simp at hc
    | builtin bt =>
      unfold compBuiltin at hc
      simp only [] at hc
      split at hc
      · obtain ⟨y, _, hy⟩ := compOpds_one hl
        simp only [Option.bind_eq_some_iff] at hc
        obtain ⟨t, ht, hc⟩ := hc
        split at hc
        · simp at hc
        · simp at hc
        · simp at hc
        · split at hc <;> simp at hc
        · simp only [Option.some.injEq, COp.r.injEq] at hc; subst hc; exact ⟨y, _, hy, rfl⟩
        · simp at hc
      all_goals
        first
          | (simp at hc; done)
          | (simp only [Option.bind_eq_some_iff] at hc
             obtain ⟨t, ht, hc⟩ := hc
             try (obtain ⟨u, hu, hc⟩ := hc)
             split at hc <;> simp only [Option.bind_eq_some_iff, Option.map_eq_some_iff, reduceCtorEq, Option.some.injEq] at hc <;> (try (obtain ⟨_, _, hc⟩ := hc)) <;> (try (obtain ⟨_, _, hc⟩ := hc)) <;> (try (obtain ⟨_, _, hc⟩ := hc)) <;> (try (split at hc)) <;> (try simp at hc))
  | binOp op t x y ty' =>
    simp only [compOp, Option.bind_eq_some_iff] at hc
    obtain ⟨_, _, _, _, hc⟩ := hc
    split at hc
    · simp only [compEq] at hc; split at hc <;> simp at hc
    · simp only [compEq] at hc; split at hc <;> simp at hc
    · simp at hc
  | build t ps => simp only [compOp] at hc; (repeat' split at hc) <;> simp [Option.bind_eq_some_iff] at hc
  | store t x y => simp [compOp, Option.bind_eq_some_iff] at hc
  | pick x y z => simp [compOp, Option.bind_eq_some_iff] at hc
  | makeFunc _ _ _ => simp [compOp, Option.bind_eq_some_iff] at hc
  | makeInterface _ _ => simp only [compOp] at hc; split at hc <;> simp at hc
  | fieldAddr _ _ _ => simp only [compOp] at hc; split at hc <;> simp only [Option.bind_eq_some_iff, reduceCtorEq] at hc; obtain ⟨_, _, _, _, hc⟩ := hc; split at hc <;> simp at hc
  | field _ _ _ => simp only [compOp] at hc; split at hc <;> simp [Option.bind_eq_some_iff] at hc
  | indexAddr _ _ _ => simp only [compOp, Option.bind_eq_some_iff] at hc; obtain ⟨_, _, _, _, hc⟩ := hc; split at hc <;> simp at hc
  | index _ _ _ => simp only [compOp, Option.bind_eq_some_iff] at hc; obtain ⟨_, _, _, _, hc⟩ := hc; split at hc <;> simp [Option.bind_eq_some_iff] at hc
  | defer cl =>
    simp only [compOp, Option.bind_eq_some_iff] at hc
    obtain ⟨_, _, hc⟩ := hc
    split at hc <;> simp [Option.bind_eq_some_iff] at hc
  | alloc t => simp [compOp] at hc
  | box t x => simp [compOp, Option.bind_eq_some_iff] at hc
  | buildSlice t n ps =>
    simp only [compOp] at hc
    split at hc
    · simp only [Option.bind_eq_some_iff] at hc
      obtain ⟨_, _, _, _, hc⟩ := hc
      split at hc <;> simp at hc
    · simp at hc
  | makeMap t r => simp only [compOp] at hc; split at hc <;> simp at hc
  | insert _ _ _ _ => simp only [compOp] at hc; split at hc <;> simp [Option.bind_eq_some_iff] at hc
  | mapUpdate _ _ _ _ => simp only [compOp] at hc; split at hc <;> simp [Option.bind_eq_some_iff] at hc
  | makeSlice _ _ _ => simp only [compOp] at hc; split at hc <;> simp [Option.bind_eq_some_iff] at hc
  | _ => simp [compOp] at hc
/-- A block that is read is known. -/
theorem ard_dom {E : Env} {τ : Tm} {a : Act} (T : TRel E τ a.tmps) {op : Op} {c : ROp} (hc : compOp P op = some (.r c)) {b : Nat} {g : ABlk → Option AVal} (h : ard τ c = some (.b b g)) : E b ≠ none := by
  obtain ⟨y, x, hy, hm⟩ := comp_invR hc
  have key : ∀ v, ev τ x = some v → cv E v ≠ none := fun v hv => by rw [ev_sound T hy hv]; simp
  cases c with
  | load ag n z =>
    simp only at hm; subst hm
    simp only [ard] at h
    split at h
    · rename_i e
      simp only [Option.some.injEq, Rd.b.injEq] at h
      have := key _ e
      simp only [cv, h.1] at this
      intro k; simp [k] at this
    · simp at h
  | lookup k z ok q i =>
    simp only at hm; subst hm
    simp only [ard, Option.bind_eq_some_iff] at h
    obtain ⟨_, _, h⟩ := h
    split at h
    · split at h
      · simp at h
      · rename_i e
        simp only [Option.some.injEq, Rd.b.injEq] at h
        have := key _ e
        simp only [cv, h.1] at this
        intro k; simp [k] at this
      · simp at h
    · simp at h
  | lenM q =>
    simp only at hm; subst hm
    simp only [ard] at h
    split at h
    · simp at h
    · rename_i e
      simp only [Option.some.injEq, Rd.b.injEq] at h
      have := key _ e
      simp only [cv, h.1] at this
      intro k; simp [k] at this
    · simp at h
  | slice es q lo hi =>
    simp only at hm; subst hm
    simp only [ard, Option.bind_eq_some_iff] at h
    obtain ⟨_, _, _, _, h⟩ := h
    split at h
    · simp at h
    · simp at h
    · rename_i e
      simp only [Option.some.injEq, Rd.b.injEq] at h
      have := key _ e
      simp only [cv, h.1] at this
      intro k; simp [k] at this
    · simp at h
  | slice3 es q lo hi mx =>
    simp only at hm; subst hm
    simp only [ard, Option.bind_eq_some_iff] at h
    obtain ⟨_, _, _, _, _, _, h⟩ := h
    split at h
    · simp at h
    · rename_i e
      simp only [Option.some.injEq, Rd.b.injEq] at h
      have := key _ e
      simp only [cv, h.1] at this
      intro k; simp [k] at this
    · simp at h
  | strOf q =>
    simp only at hm; subst hm
    simp only [ard] at h
    split at h
    · simp at h
    · simp at h
    · rename_i b' o n cp e
      simp only [Option.some.injEq, Rd.b.injEq] at h
      have := key _ e
      intro k
      cases cp <;> simp [cv, h.1, k] at this
    · simp at h

section
variable {Φ : Phi} {nt : Nat} {ops : Array Oper} {st : Nat → ASt} {val : Nat → AVal} {evt : Nat → Ev}

structure Inv (ops : Array Oper) (st : Nat → ASt) (val : Nat → AVal) (evt : Nat → Ev) (nt : Nat) (E0 : Env) (w0 : World) (S : Nat → Bool) (E : Env) (a : Act) (w : World) : Prop where
  down : Down ops S
  bnd : ∀ i, S i = true → i < ops.size
  T : ∀ t v, cur ops st val S ops.size t = some v → ∃ x, a.tmps[t]? = some x ∧ cv E v = some x
  sz : a.tmps.size = nt
  D : DRel E (dsS st evt S ops.size) a.defers
  R : Rel E (heapS st evt S (st ops.size).H.n ops.size) w
  X : Grow E0 (st 0).H w0 E (heapS st evt S (st ops.size).H.n ops.size) w
  dom : ∀ b, E b ≠ none → E0 b ≠ none ∨ ∃ i, S i = true ∧ (st i).H.n ≤ b ∧ b < (st (i + 1)).H.n
  all : ∀ i b, S i = true → (st i).H.n ≤ b → b < (st (i + 1)).H.n → E b ≠ none

theorem Inv.domS {E0 E : Env} {w0 w : World} {S : Nat → Bool} {a : Act} (I : Inv ops st val evt nt E0 w0 S E a w) (hF : Fresh E0 (st 0).H.n (st ops.size).H.n) {b : Nat} (h : E b ≠ none) : domS ops st S b := by
  rcases I.dom b h with h1 | ⟨i, h1, h2, h3⟩
  · left; rintro ⟨h4, h5⟩; exact h1 (hF b h4 h5)
  · exact .inr ⟨i, h1, I.bnd i h1, h2, h3⟩
theorem Inv.trel {E0 E : Env} {w0 w : World} {S : Nat → Bool} {a : Act} (I : Inv ops st val evt nt E0 w0 S E a w) (C : DC P Φ nt ops st val evt) (hΦ : ∀ f, Sound P f (Φ f)) {j : Nat} {o : Oper} (R : Ready ops S j o) : TRel E (restrict (opUses ops o) (st j).tm) a.tmps := by
  intro t v h
  have h1 := restrict_lk _ _ h
  have h2 : t ∈ opUses ops o := by
    unfold restrict at h
    generalize opUses ops o = us at h
    induction us with
    | nil => simp [lk] at h
    | cons k us ih =>
      cases hk : lk (st j).tm k with
      | none => simp only [List.filterMap_cons, hk, Option.map_none] at h; exact List.mem_cons_of_mem _ (ih h)
      | some u =>
        simp only [List.filterMap_cons, hk, Option.map_some, lk] at h
        by_cases e : Nat.beq t k = true
        · rw [Nat.eq_of_beq_eq_true e]; simp
        · rw [if_neg e] at h; exact List.mem_cons_of_mem _ (ih h)
  have h3 := C.cur_at hΦ R (t := t) (by unfold opTmps; simp [h2])
  exact I.T t v (by rw [h3]; exact h1)

theorem down_add {S : Nat → Bool} {j : Nat} {o : Oper} (R : Ready ops S j o) : Down ops (addS S j) := by
  intro i q hq hi e he hb
  by_cases k : e.on = j
  · rw [k]; exact addS_at S j
  · rw [addS_ne S k]
    by_cases hij : i = j
    · subst hij
      have := R.at_; rw [hq] at this; simp only [Option.some.injEq] at this; subst this
      exact R.pre e he hb
    · rw [addS_ne S hij] at hi
      exact R.down i q hq hi e he hb
theorem bnd_add {S : Nat → Bool} {j : Nat} {o : Oper} (R : Ready ops S j o) : ∀ i, addS S j i = true → i < ops.size := by
  intro i hi
  by_cases hij : i = j
  · rw [hij]; exact R.lt
  · rw [addS_ne S hij] at hi; exact R.bnd i hi

/-- Operation j adds nothing to the heap's story. -/
theorem heapS_same {S : Nat → Bool} {j : Nat} (h : (evt j = .p ∨ ∃ b n g u, evt j = .r b n g u)) {nB : Nat} : ∀ k, heapS st evt (addS S j) nB k = heapS st evt S nB k
  | 0 => rfl
  | k + 1 => by
    have ih := heapS_same (S := S) h (nB := nB) k
    simp only [heapS, ih]
    by_cases e : k = j
    · subst e
      rcases h with h | ⟨b, n, g, u, h⟩ <;> (rw [h]; by_cases hS : S k = true <;> simp [hS, addS_at])
    · rw [addS_ne S e]
theorem dsS_same {S : Nat → Bool} {j : Nat} (h : ∀ Hb Ha, evt j ≠ .x Hb Ha) : ∀ k, dsS st evt (addS S j) k = dsS st evt S k
  | 0 => rfl
  | k + 1 => by
    have ih := dsS_same (S := S) h k
    simp only [dsS, ih]
    by_cases e : k = j
    · subst e
      cases he : evt k with
      | x Hb Ha => exact absurd he (h Hb Ha)
      | _ => by_cases hS : S k = true <;> simp [hS, addS_at]
    · rw [addS_ne S e]

theorem Inv.tm_add {E0 E E' : Env} {w0 w : World} {S : Nat → Bool} {a a' : Act} (I : Inv ops st val evt nt E0 w0 S E a w) (C : DC P Φ nt ops st val evt) {j : Nat} {o : Oper} (R : Ready ops S j o) (hlt : ∀ d, o.dst = some d → d < nt) (le : E.le E') {x : Value} (hx : cv E' (val j) = some x) (he : a'.tmps = (a.put o.dst x).tmps) :
    (∀ t v, cur ops st val (addS S j) ops.size t = some v → ∃ y, a'.tmps[t]? = some y ∧ cv E' v = some y) ∧ a'.tmps.size = nt := by
  constructor
  · intro t v h
    rw [C.cur_ins R t] at h
    rw [he]
    by_cases hd : o.dst = some t
    · rw [if_pos hd] at h
      simp only [Option.some.injEq] at h; subst h
      have := hlt t hd
      refine ⟨x, ?_, hx⟩
      simp only [Act.put, hd]
      rw [Array.getElem?_setIfInBounds_self]
      simp [I.sz, this]
    · rw [if_neg hd] at h
      obtain ⟨y, hy, hc⟩ := I.T t v h
      refine ⟨y, ?_, cv_mono le _ _ hc⟩
      cases hdst : o.dst with
      | none => simpa [Act.put, hdst] using hy
      | some d =>
        have hne : d ≠ t := by intro e; rw [e] at hdst; exact hd hdst
        simp only [Act.put]
        rw [Array.getElem?_setIfInBounds_ne hne]; exact hy
  · rw [he, act_put_size, I.sz]
end
end Go.Eng

/- The engine, twenty-second part: code is sound, and functions are. -/
import Derived.Test.YtgmaknppneonfaaEngU
import Derived.LoopN
set_option linter.unusedSimpArgs false
set_option linter.unusedVariables false
namespace Go.Eng
variable {P : Program}

def exOf : AEx → Exit
  | .normal => .normal
  | .exit id => .exit id
  | .ret => .ret
theorem arun_wf {Φ : Phi} (hΦ : ∀ f, Sound P f (Φ f)) : ∀ (cl : List COper) {s s' : ASt}, arun Φ cl s = some s' → s.H.wf → s'.H.wf
  | [], s, s', h, k => by simp only [arun, Option.some.injEq] at h; subst h; exact k
  | c :: cl, s, s', h, k => by
    simp only [arun, Option.bind_eq_some_iff, Prod.exists] at h
    obtain ⟨s1, ev', hs, hr⟩ := h
    refine arun_wf hΦ cl hr ?_
    unfold astep at hs
    split at hs
    · simp only [Option.map_eq_some_iff, Prod.exists, Prod.mk.injEq] at hs
      obtain ⟨v, H', ds', e1, ha, rfl, rfl⟩ := hs
      exact (aop_n hΦ ha).2 k
    · simp only [Option.some.injEq, Prod.mk.injEq] at hs; obtain ⟨rfl, rfl⟩ := hs; exact k
    · simp at hs

/-- What is shown of a piece of code: it grows the heap, keeps it well formed, and does what its denotation says. -/
def CodeOk (P : Program) (nt : Nat) (c : Code) (s : ASt) (x : AEx) (s' : ASt) : Prop :=
  (s.H.n ≤ s'.H.n ∧ (s.H.wf → s'.H.wf)) ∧ ∀ {E : Env} {a : Act} {w : World} {Q : Exit → Act → World → Prop}, SRel E s a w nt → Fresh E s.H.n s'.H.n →
    (∀ E' a' w', Ext E s.H w E' s'.H w' → SRel E' s' a' w' nt → Q (exOf x) a' w') → c.wp P Q a w

theorem iter_sound {nt : Nat} {c : Code} {f : ASt → Option (AEx × ASt)} (ih : ∀ {s x s'}, f s = some (x, s') → CodeOk P nt c s x s') : ∀ (n : Nat) {s x s'}, iter f n s = some (x, s') →
    (x ≠ .normal ∧ s.H.n ≤ s'.H.n ∧ (s.H.wf → s'.H.wf)) ∧ ∀ {E : Env} {a : Act} {w : World} {Q : Exit → Act → World → Prop}, SRel E s a w nt → Fresh E s.H.n s'.H.n →
      (∀ E' a' w', Ext E s.H w E' s'.H w' → SRel E' s' a' w' nt → Q (exOf x) a' w') → Code.rounds P c Q n a w
  | 0, s, x, s', h => by simp [iter] at h
  | n + 1, s, x, s', h => by
    simp only [iter, Option.bind_eq_some_iff, Prod.exists] at h
    obtain ⟨e, s1, h1, h2⟩ := h
    obtain ⟨⟨hn1, hw1⟩, hc⟩ := ih h1
    cases e with
    | normal =>
      simp only [] at h2
      obtain ⟨⟨hx, hn2, hw2⟩, hc2⟩ := iter_sound ih n h2
      refine ⟨⟨hx, Nat.le_trans hn1 hn2, fun k => hw2 (hw1 k)⟩, fun {E a w Q} S hF hQ => ?_⟩
      rw [rounds_succ]
      refine hc S (hF.left hn2) fun E' a' w' X S' => ?_
      exact hc2 S' (hF.right X) fun E'' a'' w'' X' S'' => hQ E'' a'' w'' (X.trans X') S''
    | exit id =>
      simp only [Option.some.injEq, Prod.mk.injEq] at h2
      obtain ⟨rfl, rfl⟩ := h2
      refine ⟨⟨by simp, hn1, hw1⟩, fun {E a w Q} S hF hQ => ?_⟩
      rw [rounds_succ]
      exact hc S hF fun E' a' w' X S' => hQ E' a' w' X S'
    | ret =>
      simp only [Option.some.injEq, Prod.mk.injEq] at h2
      obtain ⟨rfl, rfl⟩ := h2
      refine ⟨⟨by simp, hn1, hw1⟩, fun {E a w Q} S hF hQ => ?_⟩
      rw [rounds_succ]
      exact hc S hF fun E' a' w' X S' => hQ E' a' w' X S'

theorem code_sound {Φ : Phi} (hΦ : ∀ f, Sound P f (Φ f)) (hm : P.follows .mixedOrders = true) {nt : Nat} : ∀ (c : Code) (ks ks' : List (List Nat)) (cc : CCode), compCode P nt c ks = some (cc, ks') →
    ∀ {s x s'}, aden Φ cc s = some (x, s') → CodeOk P nt c s x s' := by
  intro c
  induction c with
  | skip =>
    intro ks ks' cc hc s x s' h
    simp only [compCode, Option.some.injEq, Prod.mk.injEq] at hc; obtain ⟨rfl, rfl⟩ := hc
    simp only [aden, Option.some.injEq, Prod.mk.injEq] at h; obtain ⟨rfl, rfl⟩ := h
    exact ⟨⟨Nat.le_refl _, fun k => k⟩, fun S hF hQ => wp_skip (hQ _ _ _ (Ext.refl _ _ _) S)⟩
  | region id ops d =>
    intro ks ks' cc hc s x s' h
    cases ks with
    | nil => simp [compCode] at hc
    | cons keep ks =>
      simp only [compCode, Option.bind_eq_some_iff] at hc
      obtain ⟨cs, hcs, hc⟩ := hc
      cases d with
      | false =>
        simp only [Bool.false_eq_true, if_false, Option.some.injEq, Prod.mk.injEq] at hc; obtain ⟨rfl, rfl⟩ := hc
        simp only [aden, Option.map_eq_some_iff, Prod.mk.injEq] at h
        obtain ⟨s1, h1, rfl, rfl⟩ := h
        refine ⟨⟨(arun_sound hΦ (Q := fun _ _ _ => True) ops.toList cs 0 (fun j => by simp) hcs h1).1, fun k => (show s1.H.wf from arun_wf hΦ cs h1 k)⟩, fun {E a w Q} S hF hQ => ?_⟩
        refine wp_region ?_
        have := (arun_sound hΦ (Q := Q) ops.toList cs 0 (fun j => by simp) hcs h1).2 S hF fun E' a' w' X S' => hQ E' a' w' X (S'.restrict keep)
        rw [List.range_eq_range']
        simpa using this
      | true =>
        simp only [if_true] at hc
        split at hc
        · rename_i hok
          simp only [Option.some.injEq, Prod.mk.injEq] at hc; obtain ⟨rfl, rfl⟩ := hc
          simp only [aden, Option.bind_eq_some_iff, Prod.exists] at h
          obtain ⟨s1, es, h1, h2⟩ := h
          split at h2
          · rename_i hb
            simp only [Option.some.injEq, Prod.mk.injEq] at h2; obtain ⟨rfl, rfl⟩ := h2
            rw [Bool.and_eq_true] at hb
            obtain ⟨hn, hc⟩ := draw_sound hΦ hm hcs hok h1 hb.1 hb.2
            exact ⟨hn, fun {E a w Q} S hF hQ => hc S hF fun E' a' w' X S' => hQ E' a' w' X (S'.restrict keep)⟩
          · simp at h2
        · simp at hc
  | seq c1 c2 ih1 ih2 =>
    intro ks ks' cc hc s x s' h
    simp only [compCode, Option.bind_eq_some_iff, Option.map_eq_some_iff, Prod.exists, Prod.mk.injEq] at hc
    obtain ⟨a1, k1, hc1, a2, k2, hc2, rfl, rfl⟩ := hc
    simp only [aden, Option.bind_eq_some_iff, Prod.exists] at h
    obtain ⟨e, s1, h1, h2⟩ := h
    obtain ⟨⟨hn1, hw1⟩, hr⟩ := ih1 _ _ _ hc1 h1
    cases e with
    | normal =>
      simp only [] at h2
      obtain ⟨⟨hn2, hw2⟩, hr2⟩ := ih2 _ _ _ hc2 h2
      refine ⟨⟨Nat.le_trans hn1 hn2, fun k => hw2 (hw1 k)⟩, fun {E a w Q} S hF hQ => wp_seq ?_⟩
      refine hr S (hF.left hn2) fun E' a' w' X S' => ?_
      exact hr2 S' (hF.right X) fun E'' a'' w'' X' S'' => hQ E'' a'' w'' (X.trans X') S''
    | exit id =>
      simp only [Option.some.injEq, Prod.mk.injEq] at h2; obtain ⟨rfl, rfl⟩ := h2
      exact ⟨⟨hn1, hw1⟩, fun {E a w Q} S hF hQ => wp_seq (hr S hF fun E' a' w' X S' => hQ E' a' w' X S')⟩
    | ret =>
      simp only [Option.some.injEq, Prod.mk.injEq] at h2; obtain ⟨rfl, rfl⟩ := h2
      exact ⟨⟨hn1, hw1⟩, fun {E a w Q} S hF hQ => wp_seq (hr S hF fun E' a' w' X S' => hQ E' a' w' X S')⟩
  | cond o c1 c2 ih1 ih2 =>
    intro ks ks' cc hc s x s' h
    simp only [compCode, Option.bind_eq_some_iff, Option.map_eq_some_iff, Prod.exists, Prod.mk.injEq] at hc
    obtain ⟨co, hco, a1, k1, hc1, a2, k2, hc2, rfl, rfl⟩ := hc
    simp only [aden] at h
    split at h
    · rename_i hv
      obtain ⟨hn, hr⟩ := ih1 _ _ _ hc1 h
      refine ⟨hn, fun {E a w Q} S hF hQ => ?_⟩
      have := ev_sound S.T hco hv
      simp only [cv, Option.some.injEq] at this
      exact wp_cond_true this.symm (hr S hF hQ)
    · rename_i hv
      obtain ⟨hn, hr⟩ := ih2 _ _ _ hc2 h
      refine ⟨hn, fun {E a w Q} S hF hQ => ?_⟩
      have := ev_sound S.T hco hv
      simp only [cv, Option.some.injEq] at this
      exact wp_cond_false this.symm (hr S hF hQ)
    · simp at h
  | block id c1 ih1 =>
    intro ks ks' cc hc s x s' h
    simp only [compCode, Option.map_eq_some_iff, Prod.exists, Prod.mk.injEq] at hc
    obtain ⟨a1, k1, hc1, rfl, rfl⟩ := hc
    simp only [aden, Option.map_eq_some_iff, Prod.exists, Prod.mk.injEq] at h
    obtain ⟨e, s1, h1, rfl, rfl⟩ := h
    obtain ⟨hn, hr⟩ := ih1 _ _ _ hc1 h1
    refine ⟨hn, fun {E a w Q} S hF hQ => wp_block (hr S hF fun E' a' w' X S' => ?_)⟩
    have := hQ E' a' w' X S'
    cases e with
    | normal => exact this
    | ret => exact this
    | exit j =>
      simp only [AEx.inBlock] at this
      simp only [exOf, Exit.inBlock]
      cases hb : Nat.beq j id with
      | true =>
        rw [hb] at this
        rw [if_pos (Nat.eq_of_beq_eq_true hb)]; exact this
      | false =>
        rw [hb] at this
        rw [if_neg (Nat.ne_of_beq_eq_false hb)]; exact this
  | loop c1 ih1 =>
    intro ks ks' cc hc s x s' h
    simp only [compCode, Option.map_eq_some_iff, Prod.exists, Prod.mk.injEq] at hc
    obtain ⟨a1, k1, hc1, rfl, rfl⟩ := hc
    simp only [aden] at h
    obtain ⟨⟨_, hn, hw⟩, hr⟩ := iter_sound (fun h => ih1 _ _ _ hc1 h) fuel h
    exact ⟨⟨hn, hw⟩, fun {E a w Q} S hF hQ => wp_loop_rounds fuel (hr S hF hQ)⟩
  | exit id =>
    intro ks ks' cc hc s x s' h
    simp only [compCode, Option.some.injEq, Prod.mk.injEq] at hc; obtain ⟨rfl, rfl⟩ := hc
    simp only [aden, Option.some.injEq, Prod.mk.injEq] at h; obtain ⟨rfl, rfl⟩ := h
    exact ⟨⟨Nat.le_refl _, fun k => k⟩, fun S hF hQ => wp_exit (hQ _ _ _ (Ext.refl _ _ _) S)⟩
  | ret =>
    intro ks ks' cc hc s x s' h
    simp only [compCode, Option.some.injEq, Prod.mk.injEq] at hc; obtain ⟨rfl, rfl⟩ := hc
    simp only [aden, Option.some.injEq, Prod.mk.injEq] at h; obtain ⟨rfl, rfl⟩ := h
    exact ⟨⟨Nat.le_refl _, fun k => k⟩, fun S hF hQ => wp_ret (hQ _ _ _ (Ext.refl _ _ _) S)⟩
  | _ => intro ks ks' cc hc; simp [compCode] at hc
end Go.Eng

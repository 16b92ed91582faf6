/- The engine, fifth part: the operations that only compute are sound. -/
import Derived.Test.YtgmaknppneonfaaEngD
set_option linter.unusedSimpArgs false
set_option linter.unusedVariables false
namespace Go.Eng
variable {P : Program}

theorem abin_sound {E : Env} {op : BinOp} {x y v : AVal} {a b : Value} (ha : cv E x = some a) (hb : cv E y = some b) (h : abin op x y = some v) (t : TypeId) (w : World) :
    ∃ u, (binOp op t a b).run P w = .ok u w ∧ cv E v = some u := by
  cases x with
  | int k m =>
    cases y with
    | int j n =>
      simp only [cv, Option.some.injEq] at ha hb; subst ha; subst hb
      simp only [abin] at h
      by_cases hs : op = .shl
      · subst hs
        by_cases hn : n < 0
        · simp [hn] at h
        · simp only [hn, if_false, Option.some.injEq] at h; subst h
          exact ⟨_, by simp [binOp, Op.shift, hn], rfl⟩
      by_cases hs' : op = .shr
      · subst hs'
        by_cases hn : n < 0
        · simp [hn] at h
        · simp only [hn, if_false, Option.some.injEq] at h; subst h
          exact ⟨_, by simp [binOp, Op.shift, hn], rfl⟩
      by_cases hk : k = j
      · subst hk
        cases op <;> simp only [if_true, aint] at h <;> first
          | exact absurd rfl hs
          | exact absurd rfl hs'
          | (simp only [Option.some.injEq] at h; subst h; refine ⟨_, ?_, rfl⟩; simp only [binOp, ne_eq, not_true_eq_false, if_false, Op.intArith, Op.intBits, Op.intCmp, abits, Sem.run_pure]; done)
          | (by_cases hz : n = 0
             · simp [hz] at h
             · simp only [hz, if_false, Option.some.injEq] at h; subst h; refine ⟨_, ?_, rfl⟩; simp [binOp, Op.intDiv, hz]; done)
          | (simp at h; done)
      · cases op <;> simp [hk] at h <;> first | exact absurd rfl hs | exact absurd rfl hs'
    | _ => simp [abin] at h
  | str m =>
    cases y with
    | str n =>
      simp only [cv, Option.some.injEq] at ha hb; subst ha; subst hb
      simp only [abin] at h
      cases op <;> simp only [astr] at h <;> first
        | (simp only [Option.some.injEq] at h; subst h; refine ⟨_, ?_, rfl⟩; simp [binOp, Op.stringOp, ByteArray.toList_eq]; done)
        | (by_cases hl : m.length + n.length ≤ maxStr
           · simp only [hl, if_true, Option.some.injEq] at h; subst h
             have e1 : (⟨m.toArray⟩ : ByteArray).size = m.length := by simp [ByteArray.size]
             have e2 : (⟨n.toArray⟩ : ByteArray).size = n.length := by simp [ByteArray.size]
             have e3 : IntKind.i64.max = 9223372036854775807 := by decide
             have hz : ¬ ((((⟨m.toArray⟩ : ByteArray).size + (⟨n.toArray⟩ : ByteArray).size : Nat) : Int) > IntKind.i64.max) := by
               rw [e1, e2, e3]; unfold maxStr at hl; omega
             refine ⟨.string (⟨m.toArray⟩ ++ ⟨n.toArray⟩), ?_, ?_⟩
             · simp only [binOp, Op.stringOp]; rw [if_neg hz]; rfl
             · simp only [cv, Option.some.injEq, Value.string.injEq]
               apply ByteArray.ext
               simp
           · simp [hl] at h)
        | (simp at h; done)
    | _ => simp [abin] at h
  | _ => cases y <;> simp [abin] at h

theorem aun_sound {E : Env} {op : UnOp} {x v : AVal} {a : Value} (ha : cv E x = some a) (h : aun op x = some v) (w : World) :
    ∃ u, (Op.unary op a).run P w = .ok u w ∧ cv E v = some u := by
  cases op <;> cases x <;> simp only [aun, Option.some.injEq, reduceCtorEq] at h <;> (simp only [cv, Option.some.injEq] at ha; subst ha; subst h) <;>
    exact ⟨_, by simp [Op.unary, Op.intArith, Op.intBits, abits], rfl⟩

/-! ### Equality -/
theorem cellEq_sound {E : Env} {c : CT} {x y : AVal} {a b : Value} {r : Bool} {t : TypeId} (ht : ctOf P t = some c) (ha : cv E x = some a) (hb : cv E y = some b) (h : cellEq c x y = some r) (d : Nat) (w : World) :
    (Op.equalIn (d + 1) t a b).run P w = .ok r w := by
  unfold ctOf at ht
  cases hu : P.underlying t with
  | none => simp [hu] at ht
  | some u =>
    cases c with
    | bool =>
      cases x <;> cases y <;> simp only [cellEq, Option.some.injEq, reduceCtorEq] at h
      simp only [cv, Option.some.injEq] at ha hb; subst ha; subst hb; subst h
      cases u <;> simp [hu] at ht
      exact run_equalIn_bool' w d t _ _ hu
    | int k =>
      cases x <;> cases y <;> simp only [cellEq, Option.some.injEq, reduceCtorEq] at h
      simp only [cv, Option.some.injEq] at ha hb; subst ha; subst hb
      split at h
      · split at h
        · rename_i h1 h2
          subst h1; subst h2
          simp only [Option.some.injEq] at h; subst h
          cases u <;> simp [hu] at ht
          subst ht
          exact run_equalIn_int w d t _ _ _ _ hu
        · simp at h
      · simp at h
    | str =>
      cases x <;> cases y <;> simp only [cellEq, Option.some.injEq, reduceCtorEq] at h
      simp only [cv, Option.some.injEq] at ha hb; subst ha; subst hb; subst h
      cases u <;> simp [hu] at ht
      rw [run_equalIn_string w d t _ _ hu]
      simp [ByteArray.toList_eq]

theorem cellsEq_length : ∀ {cs : List CT} {l m : List AVal} {r : Bool}, cellsEq cs l m = some r → l.length = cs.length ∧ m.length = cs.length
  | [], [], [], r, h => ⟨rfl, rfl⟩
  | [], _ :: _, _, r, h => by simp [cellsEq] at h
  | [], [], _ :: _, r, h => by simp [cellsEq] at h
  | c :: cs, [], _, r, h => by simp [cellsEq] at h
  | c :: cs, _ :: _, [], r, h => by simp [cellsEq] at h
  | c :: cs, a :: l, b :: m, r, h => by
    simp only [cellsEq, Option.bind_eq_some_iff, Option.map_eq_some_iff] at h
    obtain ⟨q, hq, s, hs, rfl⟩ := h
    have := cellsEq_length hs
    simp [this.1, this.2]
theorem cellsEq_append : ∀ {cs ds : List CT} {l m : List AVal} {r : Bool}, cellsEq (cs ++ ds) l m = some r →
    ∃ p q, cellsEq cs (l.take cs.length) (m.take cs.length) = some p ∧ cellsEq ds (l.drop cs.length) (m.drop cs.length) = some q ∧ r = (p && q)
  | [], ds, l, m, r, h => ⟨true, r, by simp [cellsEq], by simpa using h, by simp⟩
  | c :: cs, ds, [], m, r, h => by simp [cellsEq] at h
  | c :: cs, ds, _ :: _, [], r, h => by simp [cellsEq] at h
  | c :: cs, ds, a :: l, b :: m, r, h => by
    simp only [List.cons_append, cellsEq, Option.bind_eq_some_iff, Option.map_eq_some_iff] at h
    obtain ⟨q, hq, s, hs, rfl⟩ := h
    obtain ⟨p, q', hp, hq', rfl⟩ := cellsEq_append hs
    exact ⟨q && p, q', by simp [cellsEq, hq, hp], by simpa using hq', by simp [Bool.and_assoc]⟩

/-- What is compared cell by cell at a type: as one value, or as an aggregate. -/
def EqAt (P : Program) (E : Env) (d : Nat) (t : TypeId) (cs : List CT) : Prop :=
  ∀ (x y : AVal) (a b : Value) (r : Bool) (w : World), cv E x = some a → cv E y = some b → cellsEq cs x.cells y.cells = some r →
    (aggT P t = true → ∃ l m, x = .agg l ∧ y = .agg m) → (aggT P t = false → ∃ c, cs = [c] ∧ x.cells = [x] ∧ y.cells = [y]) → (Op.equalIn d t a b).run P w = .ok r w

theorem flat_agg {P : Program} {d : Nat} {t : TypeId} {cs : List CT} (h : flat P d t = some cs) : (aggT P t = false → ∃ c, cs = [c] ∧ ctOf P t = some c) ∧ ∃ u, P.underlying t = some u := by
  cases d with
  | zero => simp [flat] at h
  | succ d =>
    unfold flat at h
    constructor
    · intro ha
      unfold aggT at ha
      split at h
      · rename_i fs hu; simp [hu] at ha
      · rename_i n e hu; simp [hu] at ha
      · simp only [Option.map_eq_some_iff] at h
        obtain ⟨c, hc, rfl⟩ := h
        exact ⟨c, rfl, hc⟩
    · split at h
      · rename_i fs hu; exact ⟨_, hu⟩
      · rename_i n e hu; exact ⟨_, hu⟩
      · simp only [Option.map_eq_some_iff] at h
        obtain ⟨c, hc, rfl⟩ := h
        unfold ctOf at hc
        cases hu : P.underlying t with
        | none => simp [hu] at hc
        | some u => exact ⟨u, rfl⟩

theorem part_eq {E : Env} {d : Nat} {t : TypeId} {cs : List CT} {s : Nat} (ih : EqAt P E d t cs) (hf : (aggT P t = false → ∃ c, cs = [c] ∧ ctOf P t = some c) ∧ ∃ u, P.underlying t = some u) (hs : sizeT P t = some cs.length)
    {l m : List AVal} {xs ys : Array Value} (hx : cvs E l = some xs.toList) (hy : cvs E m = some ys.toList) {off : Nat} {r : Bool} (h : cellsEq cs ((l.drop off).take cs.length) ((m.drop off).take cs.length) = some r) (w : World) :
    ∃ a b, (part t xs off).run P w = .ok a w ∧ (part t ys off).run P w = .ok b w ∧ (Op.equalIn d t a b).run P w = .ok r w := by
  obtain ⟨hf, u, hu⟩ := hf
  have hlen := cellsEq_length h
  have hl : off + cs.length ≤ l.length ∨ cs.length = 0 := by
    have := hlen.1; simp only [List.length_take, List.length_drop] at this; omega
  have hm : off + cs.length ≤ m.length ∨ cs.length = 0 := by
    have := hlen.2; simp only [List.length_take, List.length_drop] at this; omega
  by_cases ha : aggT P t = true
  · have key : ∀ (l : List AVal) (xs : Array Value), cvs E l = some xs.toList → ∃ a, (part t xs off).run P w = .ok a w ∧ cv E (.agg ((l.drop off).take cs.length)) = some a := by
      intro l xs hx
      refine ⟨.agg (xs.extract off (off + cs.length)), ?_, ?_⟩
      · simp only [part, Sem.run_bind, run_aggT hu, Result.andThen_ok, ha, if_true, run_sizeT hs, Sem.run_pure]
      · simp only [cv, cvs_take _ (cvs_drop off hx), Option.map_some, Option.some.injEq, Value.agg.injEq]
        apply Array.ext'
        simp [Array.toList_extract, List.extract_eq_take_drop]
    obtain ⟨a, ha1, ha2⟩ := key l xs hx
    obtain ⟨b, hb1, hb2⟩ := key m ys hy
    exact ⟨a, b, ha1, hb1, ih _ _ a b r w ha2 hb2 h (fun _ => ⟨_, _, rfl, rfl⟩) (fun k => by simp [ha] at k)⟩
  · have ha : aggT P t = false := by simpa using ha
    obtain ⟨c, rfl, hc⟩ := hf ha
    have one : ∀ (l : List AVal) (xs : Array Value), cvs E l = some xs.toList → ((l.drop off).take 1).length = 1 → ∃ v a, (l.drop off).take 1 = [v] ∧ (part t xs off).run P w = .ok a w ∧ cv E v = some a := by
      intro l xs hx hl
      match hq : (l.drop off).take 1, hl with
      | [v], _ =>
        have hv : l[off]? = some v := by
          have : ((l.drop off).take 1)[0]? = some v := by rw [hq]; rfl
          simpa [List.getElem?_take, List.getElem?_drop] using this
        obtain ⟨a, ha', hcv⟩ := cvs_get hx hv
        refine ⟨v, a, rfl, ?_, hcv⟩
        have : xs[off]? = some a := by rw [← Array.getElem?_toList]; exact ha'
        simp only [part, Sem.run_bind, run_aggT hu, Result.andThen_ok, ha, Bool.false_eq_true, if_false, this, Sem.run_pure]
    obtain ⟨v, a, e1, h1, c1⟩ := one l xs hx hlen.1
    obtain ⟨v', b, e2, h2, c2⟩ := one m ys hy hlen.2
    simp only [List.length_singleton] at h
    rw [e1, e2] at h
    refine ⟨a, b, h1, h2, ?_⟩
    have hcell : v.cells = [v] ∧ v'.cells = [v'] := by
      simp only [cellsEq, Option.bind_eq_some_iff, Option.map_eq_some_iff] at h
      obtain ⟨q, hq, _⟩ := h
      cases c <;> cases v <;> cases v' <;> simp [cellEq] at hq <;> exact ⟨rfl, rfl⟩
    exact ih v v' a b r w c1 c2 (by rw [hcell.1, hcell.2]; exact h) (fun k => by simp [ha] at k) (fun _ => ⟨c, rfl, hcell.1, hcell.2⟩)

theorem flatFields_sound {E : Env} {d : Nat} {f : TypeId → Option (List CT)} (hf : ∀ t cs, f t = some cs → EqAt P E d t cs ∧ ((aggT P t = false → ∃ c, cs = [c] ∧ ctOf P t = some c) ∧ ∃ u, P.underlying t = some u))
    {l m : List AVal} {xs ys : Array Value} (hx : cvs E l = some xs.toList) (hy : cvs E m = some ys.toList) :
    ∀ (fs : List Field) (n : Nat) (cs : List CT) (r : Bool) (w : World), flatFields P f n fs = some cs → cellsEq cs (l.drop n) (m.drop n) = some r → (Op.eqFields d xs ys fs).run P w = .ok r w
  | [], n, cs, r, w, h, k => by
    simp only [flatFields, Option.some.injEq] at h; subst h
    have : r = true := by
      cases hl : l.drop n <;> cases hm : m.drop n <;> rw [hl, hm] at k <;> simp [cellsEq] at k; exact k
    subst this; rfl
  | g :: fs, n, cs, r, w, h, k => by
    simp only [flatFields] at h
    by_cases hg : g.name ≠ "_" ∧ g.offset = n
    · rw [if_pos hg] at h
      simp only [Option.bind_eq_some_iff] at h
      obtain ⟨as, has, h⟩ := h
      by_cases hs : sizeT P g.type = some as.length
      · rw [if_pos hs] at h
        simp only [Option.map_eq_some_iff] at h
        obtain ⟨bs, hbs, rfl⟩ := h
        obtain ⟨p, q, hp, hq, rfl⟩ := cellsEq_append k
        obtain ⟨ih, hagg⟩ := hf _ _ has
        rw [← hg.2] at hp
        obtain ⟨a, b, h1, h2, h3⟩ := part_eq (s := as.length) ih hagg hs hx hy hp w
        have rest := flatFields_sound hf hx hy fs (n + as.length) bs q w hbs (by simpa [List.drop_drop, Nat.add_comm] using hq)
        simp only [Op.eqFields, Sem.run_ite]
        rw [if_pos hg.1]
        simp only [Sem.run_bind, h1, h2, h3, Result.andThen_ok, Sem.run_ite, rest]
        cases p <;> simp
      · rw [if_neg hs] at h; simp at h
    · rw [if_neg hg] at h; simp at h

theorem eqItems_sound {E : Env} {d : Nat} {e : TypeId} {a : List CT} (ih : EqAt P E d e a) (hagg : (aggT P e = false → ∃ c, a = [c] ∧ ctOf P e = some c) ∧ ∃ u, P.underlying e = some u) (hs : sizeT P e = some a.length)
    {l m : List AVal} {xs ys : Array Value} (hx : cvs E l = some xs.toList) (hy : cvs E m = some ys.toList) (w : World) :
    ∀ (k i : Nat) (r : Bool), cellsEq (List.replicate k a).flatten (l.drop (i * a.length)) (m.drop (i * a.length)) = some r →
      ((forIn (List.range' i k) ((none, ()) : Option Bool × Unit) fun j _ => do
        let u ← part e xs (j * a.length)
        let v ← part e ys (j * a.length)
        let q ← Op.equalIn d e u v
        if (!q) = true then pure (ForInStep.done (some false, ())) else pure (ForInStep.yield (none, ()))) : Sem (Option Bool × Unit)).run P w = .ok (if r then (none, ()) else (some false, ())) w
  | 0, i, r, h => by
    have : r = true := by
      cases hl : l.drop (i * a.length) <;> cases hm : m.drop (i * a.length) <;> rw [hl, hm] at h <;> simp [cellsEq] at h; exact h
    subst this; simp
  | k + 1, i, r, h => by
    simp only [List.replicate_succ, List.flatten_cons] at h
    obtain ⟨p, q, hp, hq, rfl⟩ := cellsEq_append h
    obtain ⟨u, v, h1, h2, h3⟩ := part_eq (s := a.length) ih hagg hs hx hy hp w
    have rest := eqItems_sound ih hagg hs hx hy w k (i + 1) q (by rw [Nat.add_mul, Nat.one_mul]; simpa [List.drop_drop, Nat.add_comm] using hq)
    simp only [List.range'_succ, List.forIn_cons, Sem.run_bind, h1, h2, h3, Result.andThen_ok, Sem.run_ite]
    cases p
    · simp
    · simpa using rest

theorem flat_sound {E : Env} : ∀ (d : Nat) (t : TypeId) (cs : List CT) (e : Nat), flat P d t = some cs → EqAt P E (d + e) t cs
  | 0, t, cs, e, h => by simp [flat] at h
  | d + 1, t, cs, e, h => by
    intro x y a b r w ha hb hr hagg hone
    have hfl := flat_agg h
    unfold flat at h
    rw [show d + 1 + e = (d + e) + 1 by omega]
    cases hu : P.underlying t with
    | none => rw [hu] at h; simp only [ctOf, hu] at h; simp at h
    | some u =>
      rw [hu] at h
      by_cases hag : aggT P t = true
      · obtain ⟨l, m, rfl, rfl⟩ := hagg hag
        simp only [cv, Option.map_eq_some_iff] at ha hb
        obtain ⟨xs, hx, rfl⟩ := ha
        obtain ⟨ys, hy, rfl⟩ := hb
        have hx' : cvs E l = some xs.toArray.toList := by simpa using hx
        have hy' : cvs E m = some ys.toArray.toList := by simpa using hy
        simp only [AVal.cells] at hr
        cases u with
        | struct fs =>
          simp only [] at h
          by_cases hst : P.stoodInHeld t = true
          · simp [hst] at h
          · have hst : P.stoodInHeld t = false := by simpa using hst
            simp only [hst, Bool.false_eq_true, if_false] at h
            have hfs : P.fieldsOf t = fs := by simp [Program.fieldsOf, hu]
            rw [run_equalIn_struct w (d + e) t _ _ (by rw [hfs]; exact hu) hst, hfs]
            exact flatFields_sound (fun t' cs' h' => ⟨flat_sound d t' cs' e h', flat_agg h'⟩) hx' hy' fs.toList 0 cs r w h (by simpa using hr)
        | array n el =>
          simp only [Option.bind_eq_some_iff] at h
          obtain ⟨as, has, h⟩ := h
          by_cases hs : sizeT P el = some as.length
          · rw [if_pos hs] at h
            simp only [Option.some.injEq] at h; subst h
            have key := eqItems_sound (flat_sound d el as e has) (flat_agg has) hs hx' hy' w n 0 r (by simpa using hr)
            simp only [Op.equalIn, Sem.run_bind, run_underlying hu, Result.andThen_ok, run_sizeT hs]
            rw [Std.Legacy.Range.forIn_eq_forIn_range']
            simp only [Std.Legacy.Range.size, Nat.sub_zero, Nat.add_sub_cancel, Nat.div_one]
            rw [key]
            cases r <;> simp
          · rw [if_neg hs] at h; simp at h
        | _ => simp [aggT, hu] at hag
      · have hag : aggT P t = false := by simpa using hag
        obtain ⟨c, rfl, hxc, hyc⟩ := hone hag
        obtain ⟨c', hc', hct⟩ := hfl.1 hag
        simp only [List.cons.injEq, and_true] at hc'; subst hc'
        rw [hxc, hyc] at hr
        simp only [cellsEq, Option.bind_eq_some_iff, Option.map_eq_some_iff] at hr
        obtain ⟨q, hq, s, hs, rfl⟩ := hr
        simp at hs; subst hs
        rw [Bool.and_true]
        exact cellEq_sound hct ha hb hq (d + e) w
end Go.Eng

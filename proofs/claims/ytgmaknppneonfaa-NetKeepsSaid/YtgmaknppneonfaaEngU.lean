/- The engine, twenty-first part: a region that draws its order is sound. -/
import Derived.Test.YtgmaknppneonfaaEngT
set_option linter.unusedSimpArgs false
set_option linter.unusedVariables false
namespace Go.Eng
variable {P : Program}
section
variable {Φ : Phi} {nt : Nat} {ops : Array Oper} {st : Nat → ASt} {val : Nat → AVal} {evt : Nat → Ev}

theorem Rel.congr {E : Env} {H H' : AHeap} {w : World} (R : Rel E H w) (h : ∀ b, E b ≠ none → H'.get b = H.get b) : Rel E H' w :=
  ⟨fun b l hb => by rw [h b (by simp [hb])]; exact R.blk b l hb, fun b c l k hb hc he h1 h2 => by
    rw [h b (by simp [hb])] at h1; rw [h c (by simp [hc])] at h2
    exact R.inj b c l k hb hc he h1 h2, R.lt⟩

/-- Nothing is done yet. -/
theorem inv_start {E : Env} {a : Act} {w : World} (S0 : SRel E (st 0) a w nt) : Inv ops st val evt nt E w (fun _ => false) E a w := by
  have hc : ∀ k t, cur ops st val (fun _ => false) k t = lk (st 0).tm t := by
    intro k t; induction k with
    | zero => rfl
    | succ k ih => simp [cur, ih]
  have hh : ∀ k b, (heapS st evt (fun _ => false) (st ops.size).H.n k).get b = (st 0).H.get b := by
    intro k b; induction k with
    | zero => rfl
    | succ k ih => simp [heapS_succ, ih]
  have hd : ∀ k, dsS st evt (fun _ => false) k = (st 0).ds := by
    intro k; induction k with
    | zero => rfl
    | succ k ih => simp [dsS, ih]
  refine ⟨fun i o ho hi => by simp at hi, fun i hi => by simp at hi, fun t v h => by rw [hc] at h; exact S0.T t v h, S0.nt, by rw [hd]; exact S0.D, S0.R.congr fun b _ => hh _ b, ?_, fun b h => .inl h, fun i b hi => by simp at hi⟩
  refine ⟨Env.le_refl E, Nat.le_refl _, rfl, rfl, rfl, fun _ _ _ => rfl, fun b l h k => by simp [h] at k, fun b _ hr => by rw [hh]; exact hr, fun b _ hr => by rw [hh]; exact hr⟩

/-- All is done. -/
theorem inv_end (C : DC P Φ nt ops st val evt) (hΦ : ∀ f, Sound P f (Φ f)) (hwf : (st 0).H.wf) {E0 E : Env} {w0 w : World} (hF : Fresh E0 (st 0).H.n (st ops.size).H.n) {S : Nat → Bool} {a : Act} (I : Inv ops st val evt nt E0 w0 S E a w) (hall : ∀ i, i < ops.size → S i = true) :
    Ext E0 (st 0).H w0 E (st ops.size).H w ∧ SRel E (st ops.size) a w nt := by
  have hc : ∀ k, k ≤ ops.size → ∀ t, cur ops st val S k t = lk (st k).tm t := by
    intro k
    induction k with
    | zero => intro _ t; rfl
    | succ k ih =>
      intro hk t
      obtain ⟨q, hq⟩ := op_at (ops := ops) (i := k) (by omega)
      obtain ⟨co, _, F⟩ := C.facts hΦ hq
      rw [F.tm, lk_put]
      simp only [cur, hq, Option.bind_some, hall k (by omega), true_and, ih (by omega)]
  have hd : ∀ k, k ≤ ops.size → dsS st evt S k = (st k).ds := by
    intro k
    induction k with
    | zero => intro _; rfl
    | succ k ih =>
      intro hk
      obtain ⟨q, hq⟩ := op_at (ops := ops) (i := k) (by omega)
      obtain ⟨co, _, F⟩ := C.facts hΦ hq
      simp only [dsS, hall k (by omega), if_true, ih (by omega)]
      cases hx : evt k with
      | x Hb' Ha' => rfl
      | p => exact (F.p hx).2.symm
      | r b n g u => exact (F.r b n g u hx).2.1.symm
      | a id blk => exact (F.a id blk hx).2.2.1.symm
  have hg : ∀ b, E b ≠ none → (st ops.size).H.get b = (heapS st evt S (st ops.size).H.n ops.size).get b := fun b hb =>
    (C.heapS_pre hΦ (I.domS hF hb) ops.size (Nat.le_refl _) (fun i Hb Ha hi _ => hall i hi)).symm
  have hle0 : ∀ b, E0 b ≠ none → E b ≠ none := fun b hb => by
    obtain ⟨q, hq⟩ : ∃ q, E0 b = some q := Option.ne_none_iff_exists'.1 hb
    rw [I.X.le b q hq]; simp
  refine ⟨⟨I.X.le, fun b l hb he => ?_, fun b h1 h2 => ?_, C.n_mono hΦ (Nat.zero_le _) (Nat.le_refl _), I.X.size, I.X.os, I.X.tape, I.X.output, I.X.frame, I.X.loc, fun b hb hr => ?_, fun b hb hr => ?_⟩, ⟨C.wf hΦ hwf _ (Nat.le_refl _), fun t v h => I.T t v (by rw [hc _ (Nat.le_refl _)]; exact h), by rw [← hd _ (Nat.le_refl _)]; exact I.D, I.R.congr hg, I.sz⟩⟩
  · rcases I.dom b (by simp [hb]) with h | ⟨i, h1, h2, h3⟩
    · exact absurd he h
    · have hi := I.bnd i h1
      have h4 := C.n_mono hΦ (Nat.zero_le i) (by omega)
      have h5 := C.n_mono hΦ (show i + 1 ≤ ops.size by omega) (Nat.le_refl _)
      omega
  · have : ∀ k, k ≤ ops.size → b < (st k).H.n → E b ≠ none := by
      intro k
      induction k with
      | zero => intro _ h; omega
      | succ k ih =>
        intro hk h
        by_cases hlt : b < (st k).H.n
        · exact ih (by omega) hlt
        · exact I.all k b (hall k (by omega)) (by omega) h
    exact this _ (Nat.le_refl _) h2
  · rw [hg b (hle0 b hb)]; exact I.X.mono b hb hr
  · rw [hg b (hle0 b hb)]; exact I.X.dead b hb hr

def open_ (n : Nat) (listed : Array Bool) : Nat := ((List.range n).filter fun i => !listed.getD i false).length
theorem ready_mem {listed : Array Bool} {i : Nat} (h : i ∈ Region.ready .any ops listed) : i < ops.size ∧ listed.getD i true = false ∧ ∃ o, ops[i]? = some o ∧ ∀ e ∈ o.after.toList, Region.binds .any e = true → listed.getD e.on false = true := by
  unfold Region.ready at h
  simp only [List.mem_filter, List.mem_range, Bool.and_eq_true, Bool.not_eq_true'] at h
  obtain ⟨h1, h2, h3⟩ := h
  refine ⟨h1, h2, ops[i], by simp [h1], fun e he hb => ?_⟩
  have : ops[i]? = some ops[i] := by simp [h1]
  rw [this] at h3
  simp only [Option.map_some, Option.getD_some] at h3
  rw [← Array.all_toList, List.all_eq_true] at h3
  have := h3 e he
  simpa [hb] using this
theorem getD_true_false {listed : Array Bool} {i : Nat} (h : listed.getD i true = false) : listed.getD i false = false ∧ i < listed.size := by
  rcases Nat.lt_or_ge i listed.size with hi | hi
  · refine ⟨?_, hi⟩
    rw [Array.getD_eq_getD_getElem?, Array.getElem?_eq_getElem hi] at h ⊢; exact h
  · rw [Array.getD_eq_getD_getElem?, Array.getElem?_eq_none hi] at h; exact absurd h (by decide)
theorem set_addS {listed : Array Bool} {i : Nat} (hi : i < listed.size) : (fun k => (listed.setIfInBounds i true).getD k false) = addS (fun k => listed.getD k false) i := by
  funext k
  simp only [addS, Array.getD_eq_getD_getElem?]
  by_cases e : k = i
  · subst e; simp [hi]
  · rw [Array.getElem?_setIfInBounds_ne (Ne.symm e)]; simp [e]
theorem open_set {n i : Nat} {listed : Array Bool} (hs : listed.size = n) (hi : i < n) (h : listed.getD i false = false) : open_ n (listed.setIfInBounds i true) + 1 = open_ n listed := by
  unfold open_
  have key : ∀ l : List Nat, l.Nodup → ((l.filter fun k => !(listed.setIfInBounds i true).getD k false).length + (if i ∈ l then 1 else 0) = (l.filter fun k => !listed.getD k false).length) := by
    intro l
    induction l with
    | nil => intro _; simp
    | cons k l ih =>
      intro hn
      simp only [List.nodup_cons] at hn
      have ih := ih hn.2
      have hk := congrFun (set_addS (listed := listed) (i := i) (by omega)) k
      simp only [List.filter_cons, hk, addS]
      by_cases e : k = i
      · subst e
        rw [if_neg hn.1] at ih
        simp only [if_true, Bool.not_true, Bool.false_eq_true, if_false, h, Bool.not_false, List.length_cons, List.mem_cons, true_or]
        omega
      · simp only [e, if_false, List.mem_cons, Ne.symm e, false_or]
        cases hb : listed.getD k false
        · simp only [Bool.not_false, if_true, List.length_cons]; omega
        · simp only [Bool.not_true, Bool.false_eq_true, if_false]; exact ih
  have := key (List.range n) List.nodup_range
  rw [if_pos (by simp [hi])] at this
  exact this

theorem any_sound (C : DC P Φ nt ops st val evt) (hΦ : ∀ f, Sound P f (Φ f)) (hwf : (st 0).H.wf) {E0 : Env} {w0 : World} (hF : Fresh E0 (st 0).H.n (st ops.size).H.n) {Q : Exit → Act → World → Prop}
    (hQ : ∀ E a w, Ext E0 (st 0).H w0 E (st ops.size).H w → SRel E (st ops.size) a w nt → Q .normal a w) : ∀ (fuel : Nat) (listed : Array Bool) (E : Env) (a : Act) (w : World), listed.size = ops.size → open_ ops.size listed = fuel → Inv ops st val evt nt E0 w0 (fun i => listed.getD i false) E a w → wpAny P .any ops Q fuel listed a w := by
  have fin : ∀ (listed : Array Bool) (E : Env) (a : Act) (w : World), listed.size = ops.size → Region.ready .any ops listed = [] → Inv ops st val evt nt E0 w0 (fun i => listed.getD i false) E a w → Q .normal a w := by
    intro listed E a w hs hr I
    have hall : ∀ i, i < ops.size → listed.getD i false = true := by
      intro i hi
      cases h : listed.getD i false with
      | true => rfl
      | false =>
        obtain ⟨m, hm, hp, hmin⟩ := min_ex (fun k => listed.getD k false = false) i h
        have hml : m < ops.size := by omega
        have : m ∈ Region.ready .any ops listed := by
          unfold Region.ready
          simp only [List.mem_filter, List.mem_range, Bool.and_eq_true, Bool.not_eq_true']
          have ho : ops[m]? = some ops[m] := by simp [hml]
          refine ⟨hml, ?_, ?_⟩
          · simp only [Array.getD] at hp ⊢
            rw [dif_pos (by omega)] at hp ⊢; exact hp
          · rw [ho]
            simp only [Option.map_some, Option.getD_some]
            rw [← Array.all_toList, List.all_eq_true]
            intro e he
            cases hb : Region.binds .any e with
            | false => simp
            | true =>
              have := C.lt m _ ho e he hb
              have h2 := hmin e.on this
              simpa using h2
        rw [hr] at this; simp at this
    obtain ⟨X, S⟩ := inv_end C hΦ hwf hF I hall
    exact hQ E a w X S
  intro fuel
  induction fuel with
  | zero =>
    intro listed E a w hs ho I
    have hr : Region.ready .any ops listed = [] := by
      cases h : Region.ready .any ops listed with
      | nil => rfl
      | cons i l =>
        obtain ⟨h1, h2, _⟩ := ready_mem (ops := ops) (listed := listed) (i := i) (by rw [h]; simp)
        have h3 := getD_true_false h2
        have := open_set hs h1 h3.1
        omega
    exact ⟨hr, fin listed E a w hs hr I⟩
  | succ fuel ih =>
    intro listed E a w hs ho I
    refine ⟨fun hr => fin listed E a w hs hr I, fun i hi => ?_⟩
    obtain ⟨h1, h2, o, h3, h4⟩ := ready_mem hi
    obtain ⟨h5, h6⟩ := getD_true_false h2
    have R : Ready ops (fun i => listed.getD i false) i o := ⟨h3, h5, I.down, I.bnd, h4⟩
    unfold wpOp
    rw [h3]
    refine inv_step C hΦ hwf hF I R fun E' a' w' I' => ?_
    refine ih (listed.setIfInBounds i true) E' a' w' (by simpa using hs) ?_ ?_
    · have := open_set hs h1 h5; omega
    · rw [set_addS h6]; exact I'
end

theorem mapM_get {nt : Nat} {ops : Array Oper} : ∀ (l : List Oper) (cl : List COper), l.mapM (compOper P nt ops) = some cl → cl.length = l.length ∧ ∀ (i : Nat) (o : Oper), l[i]? = some o → ∃ co, cl[i]? = some co ∧ compOper P nt ops o = some co
  | [], cl, h => by simp at h; subst h; exact ⟨rfl, fun i o h => by simp at h⟩
  | o :: l, cl, h => by
    simp only [List.mapM_cons, Option.pure_def, Option.bind_eq_bind, Option.bind_eq_some_iff, Option.some.injEq] at h
    obtain ⟨co, hco, cr, hcr, rfl⟩ := h
    obtain ⟨h1, h2⟩ := mapM_get l cr hcr
    refine ⟨by simp [h1], fun i o' h => ?_⟩
    cases i with
    | zero => simp only [List.getElem?_cons_zero, Option.some.injEq] at h; subst h; exact ⟨co, rfl, hco⟩
    | succ i => simpa using h2 i o' h
theorem mem_zipIdx_of {α : Type} {l : List α} {i : Nat} {x : α} (h : l[i]? = some x) : (x, i) ∈ l.zipIdx := by
  rw [List.mem_zipIdx_iff_getElem?]; exact h

/-- A region that draws its order. -/
theorem draw_sound {Φ : Phi} (hΦ : ∀ f, Sound P f (Φ f)) (hm : P.follows .mixedOrders = true) {nt : Nat} {ops : Array Oper} {cs : List COper} (hcs : ops.toList.mapM (compOper P nt ops) = some cs) (hok : drawOk ops cs (preOf ops.toList []) = true) {s sN : ASt} {es : List Ev}
    (h : atrace Φ (cs.zip (ops.toList.map (opUses ops))) s = some (sN, es)) (hin : es.all Ev.inside = true) (hag : (drawPairs cs (preOf ops.toList [])).all (agree es) = true) :
    (s.H.n ≤ sN.H.n ∧ (s.H.wf → sN.H.wf)) ∧ ∀ {E : Env} {a : Act} {w : World} {Q : Exit → Act → World → Prop} {id : Nat}, SRel E s a w nt → Fresh E s.H.n sN.H.n → (∀ E' a' w', Ext E s.H w E' sN.H w' → SRel E' sN a' w' nt → Q .normal a' w') → (Code.region id ops true).wp P Q a w := by
  obtain ⟨st, val, evt, h0, hN, hlen, hes, htr⟩ := trace_of ops.toList cs 0 (fun j => by simp) hcs s sN es h
  simp only [Nat.zero_add, Array.length_toList] at hN hes hlen
  obtain ⟨hcl, hcg⟩ := mapM_get ops.toList cs hcs
  have hat : ∀ {i : Nat} {o : Oper}, ops[i]? = some o → i < ops.size := fun {i o} h => by
    rcases Nat.lt_or_ge i ops.size with h' | h'
    · exact h'
    · rw [Array.getElem?_eq_none h'] at h; simp at h
  simp only [drawOk, Bool.and_eq_true, List.all_eq_true] at hok
  obtain ⟨⟨hok1, hok2⟩, hok3⟩ := hok
  -- what an operation told, and what it is
  have evc : ∀ i, i < ops.size → ∃ o co, ops[i]? = some o ∧ cs[i]? = some co ∧ StepFacts Φ o co (st i) (st (i + 1)) (val i) (evt i) := by
    intro i hi
    obtain ⟨o, ho⟩ := op_at hi
    obtain ⟨co, hc1, hc2, hc3⟩ := htr i o (Nat.zero_le _) ho
    exact ⟨o, co, ho, by simpa using hc1, step_facts hΦ hc2 hc3⟩
  have pairs : ∀ i j co cj, cs[i]? = some co → cs[j]? = some cj → (co.op.isR || co.op.isA) = true → cj.op.isX = true → ordered (preOf ops.toList []) i j = false → agree es (i, j) = true := by
    intro i j co cj hi hj h1 h2 h3
    rw [List.all_eq_true] at hag
    refine hag (i, j) ?_
    unfold drawPairs
    rw [List.mem_flatMap]
    refine ⟨(co, i), mem_zipIdx_of hi, ?_⟩
    simp only [h1, if_true, List.mem_filterMap]
    exact ⟨(cj, j), mem_zipIdx_of hj, by simp [h2, h3]⟩
  have C : DC P Φ nt ops st val evt := by
    refine ⟨fun i o ho => ?_, fun i j o q d ho hq hne hd hmem => ?_, fun i j Hb Ha Hb' Ha' hne hi hj hx hx' => ?_, fun i o ho e he hb => ?_, fun i b n g u hi he => ?_, fun i j b n g u Hb Ha hi hj he hx hun => ?_, fun i j id blk Hb Ha hij hj he hx hun => ?_⟩
    · obtain ⟨co, _, h2, h3⟩ := htr i o (Nat.zero_le _) ho; exact ⟨co, h2, h3⟩
    · have h1 := hok1 (o, i) (mem_zipIdx_of (by simpa using ho))
      simp only [List.all_eq_true] at h1
      have h2 := h1 (q, j) (mem_zipIdx_of (by simpa using hq))
      simp only [Bool.or_eq_true, beq_iff_eq, hd, Bool.not_eq_true'] at h2
      rcases h2 with h2 | h2 | h2
      · exact absurd h2 hne
      · rw [List.contains_iff_mem.2 hmem] at h2; simp at h2
      · exact h2
    · obtain ⟨o, co, _, hc, F⟩ := evc i hi
      obtain ⟨o', co', _, hc', F'⟩ := evc j hj
      have h1 := hok2 (co, i) (mem_zipIdx_of hc)
      simp only [(F.x _ _ hx).2.2, Bool.not_true, Bool.false_or, List.all_eq_true] at h1
      have h2 := h1 (co', j) (mem_zipIdx_of hc')
      simp only [(F'.x _ _ hx').2.2, Bool.not_true, Bool.or_false, Bool.or_eq_true, beq_iff_eq] at h2
      exact h2.resolve_left hne
    · have h1 := hok3 (o, i) (mem_zipIdx_of (by simpa using ho))
      simp only [List.all_eq_true] at h1
      have h2 := h1 e he
      simpa [hb] using h2
    · rw [List.all_eq_true] at hin
      have := hin (evt i) (List.mem_of_getElem? (hes i hi))
      rw [he] at this
      simpa [Ev.inside] using this
    · obtain ⟨o, co, _, hc, F⟩ := evc i hi
      obtain ⟨o', co', _, hc', F'⟩ := evc j hj
      have := pairs i j co co' hc hc' (by simp [(F.r _ _ _ _ he).2.2.2.2]) (F'.x _ _ hx).2.2 hun
      unfold agree at this
      simp only [hes i hi, hes j hj, he, hx, Bool.and_eq_true] at this
      exact ⟨by simpa using this.1.1, optBeq_eq this.1.2, optBeq_eq this.2⟩
    · obtain ⟨o, co, _, hc, F⟩ := evc i (by omega)
      obtain ⟨o', co', _, hc', F'⟩ := evc j hj
      have := pairs i j co co' hc hc' (by simp [(F.a _ _ he).2.2.2.1]) (F'.x _ _ hx).2.2 hun
      unfold agree at this
      simp only [hes i (by omega), hes j hj, he, hx, hij, if_true] at this
      exact ABlk.eq_of_beq this
  subst hN
  subst h0
  refine ⟨⟨C.n_mono hΦ (Nat.zero_le _) (Nat.le_refl _), fun hwf => C.wf hΦ hwf _ (Nat.le_refl _)⟩, fun {E a w Q id} S hF hQ => ?_⟩
  refine wp_region_any hm ?_
  refine any_sound C hΦ S.wf hF (w0 := { w with drawn := w.drawn + 1 }) (fun E' a' w' X S' => hQ E' a' w' ((Ext.drew E _ w _).trans X) S') ops.size _ E a _ (by simp) ?_ ?_
  · unfold open_
    rw [List.filter_eq_self.2]
    · simp
    · intro i hi
      simp only [List.mem_range] at hi
      simp [Array.getD, hi]
  · have he : (fun i => (Array.replicate ops.size false).getD i false) = fun _ => false := by
      funext i
      simp only [Array.getD]
      split <;> simp
    rw [he]
    exact inv_start ⟨S.wf, S.T, S.D, S.R.drew _, S.nt⟩
end Go.Eng

/- The engine, eighteenth part: regions in any order: each operation finds what it finds in the text's order. -/
import Derived.Test.YtgmaknppneonfaaEngQ
set_option linter.unusedSimpArgs false
set_option linter.unusedVariables false
namespace Go.Eng
variable {P : Program}

theorem max_ex (p : Nat → Prop) : ∀ N, (∃ k, k < N ∧ p k) → ∃ k, k < N ∧ p k ∧ ∀ i, k < i → i < N → ¬ p i
  | 0, ⟨k, h, _⟩ => by omega
  | N + 1, ⟨k, h, hp⟩ => by
    by_cases hN : p N
    · exact ⟨N, by omega, hN, fun i h1 h2 => by omega⟩
    · have hk : k ≠ N := fun e => hN (e ▸ hp)
      obtain ⟨m, h1, h2, h3⟩ := max_ex p N ⟨k, by omega, hp⟩
      refine ⟨m, by omega, h2, fun i h4 h5 => ?_⟩
      by_cases e : i = N
      · rw [e]; exact hN
      · exact h3 i h4 (by omega)
theorem min_ex (p : Nat → Prop) : ∀ k, p k → ∃ m, m ≤ k ∧ p m ∧ ∀ i, i < m → ¬ p i := by
  intro k
  induction k using Nat.strongRecOn with
  | _ k ih =>
    intro hk
    by_cases h : ∃ i, i < k ∧ p i
    · obtain ⟨i, hi, hp⟩ := h
      obtain ⟨m, h1, h2, h3⟩ := ih i hi hp
      exact ⟨m, by omega, h2, h3⟩
    · exact ⟨k, Nat.le_refl _, hk, fun i hi hp => h ⟨i, hi, hp⟩⟩

/-- All that is known of a region's run in the text's order. -/
structure DC (P : Program) (Φ : Phi) (nt : Nat) (ops : Array Oper) (st : Nat → ASt) (val : Nat → AVal) (evt : Nat → Ev) : Prop where
  tr : ∀ i o, ops[i]? = some o → ∃ co, compOper P nt ops o = some co ∧ astepD Φ co (opUses ops o) (st i) = some (st (i + 1), val i, evt i)
  tOk : ∀ i j o q d, ops[i]? = some o → ops[j]? = some q → i ≠ j → q.dst = some d → d ∈ opTmps ops o → ordered (preOf ops.toList []) i j = true
  xOk : ∀ i j Hb Ha Hb' Ha', i ≠ j → i < ops.size → j < ops.size → evt i = .x Hb Ha → evt j = .x Hb' Ha' → ordered (preOf ops.toList []) i j = true
  lt : ∀ i o, ops[i]? = some o → ∀ e ∈ o.after.toList, Region.binds .any e = true → e.on < i
  ins : ∀ i b n g u, i < ops.size → evt i = .r b n g u → b < n
  agrR : ∀ i j b n g u Hb Ha, i < ops.size → j < ops.size → evt i = .r b n g u → evt j = .x Hb Ha → ordered (preOf ops.toList []) i j = false → b < Hb.n ∧ g (Hb.get b) = some u ∧ g (Ha.get b) = some u
  agrA : ∀ i j id blk Hb Ha, i < j → j < ops.size → evt i = .a id blk → evt j = .x Hb Ha → ordered (preOf ops.toList []) i j = false → Ha.get id = blk

section
variable {Φ : Phi} {nt : Nat} {ops : Array Oper} {st : Nat → ASt} {val : Nat → AVal} {evt : Nat → Ev}

theorem op_at {i : Nat} (h : i < ops.size) : ∃ o, ops[i]? = some o := ⟨ops[i], by simp [h]⟩
theorem DC.facts (C : DC P Φ nt ops st val evt) (hΦ : ∀ f, Sound P f (Φ f)) {i : Nat} {o : Oper} (ho : ops[i]? = some o) : ∃ co, compOper P nt ops o = some co ∧ StepFacts Φ o co (st i) (st (i + 1)) (val i) (evt i) := by
  obtain ⟨co, h1, h2⟩ := C.tr i o ho
  exact ⟨co, h1, step_facts hΦ h1 h2⟩
theorem DC.n_le (C : DC P Φ nt ops st val evt) (hΦ : ∀ f, Sound P f (Φ f)) : ∀ (d i : Nat), i + d ≤ ops.size → (st i).H.n ≤ (st (i + d)).H.n
  | 0, i, h => Nat.le_refl _
  | d + 1, i, h => by
    have h1 := C.n_le hΦ d i (by omega)
    obtain ⟨o, ho⟩ := op_at (ops := ops) (i := i + d) (by omega)
    obtain ⟨co, _, F⟩ := C.facts hΦ ho
    exact Nat.le_trans h1 F.n
theorem DC.n_mono (C : DC P Φ nt ops st val evt) (hΦ : ∀ f, Sound P f (Φ f)) {i j : Nat} (h : i ≤ j) (hj : j ≤ ops.size) : (st i).H.n ≤ (st j).H.n := by
  have := C.n_le hΦ (j - i) i (by omega)
  rwa [show i + (j - i) = j by omega] at this
theorem DC.wf (C : DC P Φ nt ops st val evt) (hΦ : ∀ f, Sound P f (Φ f)) (h0 : (st 0).H.wf) : ∀ i, i ≤ ops.size → (st i).H.wf
  | 0, _ => h0
  | i + 1, h => by
    obtain ⟨o, ho⟩ := op_at (ops := ops) (i := i) (by omega)
    obtain ⟨co, _, F⟩ := C.facts hΦ ho
    exact F.wf (C.wf hΦ h0 i (by omega))
theorem DC.ahead_lt (C : DC P Φ nt ops st val evt) : ∀ (j : Nat) (o : Oper), ops[j]? = some o → ∀ i, ahead (preOf ops.toList []) i j = true → i < j := by
  intro j o ho i hi
  have := ahead_in (ops := ops) (S := fun k => decide (k < j)) (fun k p hp hk e he hb => by
    have := C.lt k p hp e he hb
    simp only [decide_eq_true_eq] at hk ⊢; omega) C.lt j o ho (fun e he hb => by have := C.lt j o ho e he hb; simp only [decide_eq_true_eq]; exact this) i hi
  simpa using this
theorem ordered_false {pre : List Nat} {i j : Nat} (h : ordered pre i j = false) : ahead pre i j = false ∧ ahead pre j i = false := by
  simpa [ordered] using h
/-- A set that an operation may come behind. -/
structure Ready (ops : Array Oper) (S : Nat → Bool) (j : Nat) (o : Oper) : Prop where
  at_ : ops[j]? = some o
  out : S j = false
  down : Down ops S
  bnd : ∀ i, S i = true → i < ops.size
  pre : ∀ e ∈ o.after.toList, Region.binds .any e = true → S e.on = true
theorem Ready.lt {S : Nat → Bool} {j : Nat} {o : Oper} (R : Ready ops S j o) : j < ops.size := by
  rcases Nat.lt_or_ge j ops.size with h | h
  · exact h
  · have := R.at_; rw [Array.getElem?_eq_none h] at this; simp at this
theorem DC.before (C : DC P Φ nt ops st val evt) {S : Nat → Bool} {j : Nat} {o : Oper} (R : Ready ops S j o) {i : Nat} (h : ahead (preOf ops.toList []) i j = true) : S i = true :=
  ahead_in R.down C.lt j o R.at_ R.pre i h
theorem DC.behind (C : DC P Φ nt ops st val evt) {S : Nat → Bool} {j : Nat} {o : Oper} (R : Ready ops S j o) {i : Nat} (h : ahead (preOf ops.toList []) j i = true) (hi : i < ops.size) : S i = false := by
  cases hs : S i with
  | false => rfl
  | true =>
    obtain ⟨q, hq⟩ := op_at hi
    have := ahead_in R.down C.lt i q hq (fun e he hb => R.down i q hq hs e he hb) j h
    rw [R.out] at this; simp at this
/-- One that is done and stands in no order ahead: in no order at all. -/
theorem DC.un_done (C : DC P Φ nt ops st val evt) {S : Nat → Bool} {j : Nat} {o : Oper} (R : Ready ops S j o) {i : Nat} (hi : S i = true) (hij : j < i) : ordered (preOf ops.toList []) j i = false := by
  have hb := R.bnd i hi
  unfold ordered
  rw [Bool.or_eq_false_iff]
  constructor
  · cases h : ahead (preOf ops.toList []) j i with
    | false => rfl
    | true => have := C.behind R h hb; rw [hi] at this; simp at this
  · cases h : ahead (preOf ops.toList []) i j with
    | false => rfl
    | true => have := C.ahead_lt j o R.at_ i h; omega
theorem DC.un_open (C : DC P Φ nt ops st val evt) {S : Nat → Bool} {j : Nat} {o : Oper} (R : Ready ops S j o) {i : Nat} (hi : S i = false) (hij : i < j) : ordered (preOf ops.toList []) j i = false := by
  have hlt := R.lt
  unfold ordered
  rw [Bool.or_eq_false_iff]
  constructor
  · cases h : ahead (preOf ops.toList []) j i with
    | false => rfl
    | true =>
      obtain ⟨q, hq⟩ := op_at (ops := ops) (i := i) (by omega)
      have := C.ahead_lt i q hq j h; omega
  · cases h : ahead (preOf ops.toList []) i j with
    | false => rfl
    | true => have := C.before R h; rw [hi] at this; simp at this

/-! ### Variables -/
theorem lk_put (dst : Option Nat) (v : AVal) (τ : Tm) (t : Nat) : lk (put dst v τ) t = if dst = some t then some v else lk τ t := by
  cases dst with
  | none => simp [put]
  | some d =>
    simp only [put, lk, Option.some.injEq]
    by_cases e : t = d
    · subst e; simp
    · have : Nat.beq t d = false := by
        cases hb : Nat.beq t d with
        | false => rfl
        | true => exact absurd (Nat.eq_of_beq_eq_true hb) e
      rw [this, if_neg (by simp), if_neg (fun k => e k.symm)]
theorem DC.cur_at (C : DC P Φ nt ops st val evt) (hΦ : ∀ f, Sound P f (Φ f)) {S : Nat → Bool} {j : Nat} {o : Oper} (R : Ready ops S j o) {t : Nat} (ht : t ∈ opTmps ops o) : cur ops st val S ops.size t = lk (st j).tm t := by
  have h1 : ∀ k, k ≤ j → cur ops st val S k t = lk (st k).tm t := by
    intro k
    induction k with
    | zero => intro _; rfl
    | succ k ih =>
      intro hk
      obtain ⟨q, hq⟩ := op_at (ops := ops) (i := k) (by have := R.lt; omega)
      obtain ⟨co, _, F⟩ := C.facts hΦ hq
      rw [F.tm, lk_put]
      simp only [cur, hq, Option.bind_some]
      by_cases hd : q.dst = some t
      · rw [if_pos hd]
        have hor := C.tOk j k o q t R.at_ hq (by omega) hd ht
        have hS : S k = true := by
          unfold ordered at hor
          rw [Bool.or_eq_true] at hor
          rcases hor with h | h
          · have := C.ahead_lt k q hq j h; omega
          · exact C.before R h
        rw [if_pos ⟨hS, hd⟩]
      · rw [if_neg hd, if_neg (fun h => hd h.2)]
        exact ih (by omega)
  have h2 : ∀ d, j + d ≤ ops.size → cur ops st val S (j + d) t = cur ops st val S j t := by
    intro d
    induction d with
    | zero => intro _; rfl
    | succ d ih =>
      intro hd
      rw [show j + (d + 1) = (j + d) + 1 by omega]
      simp only [cur]
      rw [if_neg]
      · exact ih (by omega)
      · rintro ⟨hS, hdst⟩
        obtain ⟨q, hq⟩ := op_at (ops := ops) (i := j + d) (by omega)
        rw [hq, Option.bind_some] at hdst
        have hne : j ≠ j + d := by intro e; rw [← e] at hS; rw [R.out] at hS; simp at hS
        have hor := C.tOk j (j + d) o q t R.at_ hq hne hdst ht
        have := C.un_done R hS (by omega)
        rw [hor] at this; simp at this
  have := h2 (ops.size - j) (by have := R.lt; omega)
  rw [show j + (ops.size - j) = ops.size by have := R.lt; omega] at this
  rw [this, h1 j (Nat.le_refl _)]
def addS (S : Nat → Bool) (j : Nat) : Nat → Bool := fun i => if i = j then true else S i
theorem addS_at (S : Nat → Bool) (j : Nat) : addS S j j = true := by simp [addS]
theorem addS_ne (S : Nat → Bool) {i j : Nat} (h : i ≠ j) : addS S j i = S i := by simp [addS, h]
theorem DC.cur_ins (C : DC P Φ nt ops st val evt) {S : Nat → Bool} {j : Nat} {o : Oper} (R : Ready ops S j o) (t : Nat) : cur ops st val (addS S j) ops.size t = if o.dst = some t then some (val j) else cur ops st val S ops.size t := by
  have h1 : ∀ k, k ≤ j → cur ops st val (addS S j) k t = cur ops st val S k t := by
    intro k
    induction k with
    | zero => intro _; rfl
    | succ k ih =>
      intro hk
      simp only [cur]
      rw [ih (by omega), addS_ne S (by omega)]
  have h2 : ∀ d, j + 1 + d ≤ ops.size → cur ops st val (addS S j) (j + 1 + d) t = if o.dst = some t then some (val j) else cur ops st val S (j + 1 + d) t := by
    intro d
    induction d with
    | zero =>
      intro _
      simp only [Nat.add_zero, cur, R.at_, Option.bind_some, addS_at, true_and, R.out, Bool.false_eq_true, false_and, if_false]
      rw [h1 j (Nat.le_refl _)]
    | succ d ih =>
      intro hd
      rw [show j + 1 + (d + 1) = (j + 1 + d) + 1 by omega]
      simp only [cur]
      rw [addS_ne S (by omega), ih (by omega)]
      by_cases hdst : o.dst = some t
      · rw [if_pos hdst, if_pos hdst, if_neg]
        rintro ⟨hS, hd'⟩
        obtain ⟨q, hq⟩ := op_at (ops := ops) (i := j + 1 + d) (by omega)
        rw [hq, Option.bind_some] at hd'
        have hor := C.tOk (j + 1 + d) j q o t hq R.at_ (by omega) hdst (by unfold opTmps; rw [hd']; simp)
        have := C.un_done R hS (by omega)
        unfold ordered at this hor
        rw [Bool.or_comm] at this
        rw [hor] at this; simp at this
      · rw [if_neg hdst, if_neg hdst]
  have := h2 (ops.size - (j + 1)) (by have := R.lt; omega)
  rwa [show j + 1 + (ops.size - (j + 1)) = ops.size by have := R.lt; omega] at this

/-! ### Heaps -/
variable {nB : Nat}
theorem heapS_succ (S : Nat → Bool) (k : Nat) (b : Nat) : (heapS st evt S nB (k + 1)).get b = if S k = true then (match evt k with
    | .x _ Ha => Ha.get b
    | .a id blk => if b = id then blk else (heapS st evt S nB k).get b
    | _ => (heapS st evt S nB k).get b) else (heapS st evt S nB k).get b := by
  simp only [heapS]
  by_cases h : S k = true
  · rw [if_pos h, if_pos h]
    cases evt k with
    | a id blk => simp only []; rw [get_setM]
    | _ => rfl
  · rw [if_neg h, if_neg h]
/-- Nothing of a block happens any more. -/
theorem heapS_tail {S : Nat → Bool} {m b : Nat} : ∀ d, (∀ k, m ≤ k → k < m + d → S k = true → (∀ Hb Ha, evt k ≠ .x Hb Ha) ∧ ∀ blk, evt k ≠ .a b blk) → (heapS st evt S nB (m + d)).get b = (heapS st evt S nB m).get b
  | 0, _ => rfl
  | d + 1, h => by
    rw [show m + (d + 1) = (m + d) + 1 by omega, heapS_succ]
    have ih := heapS_tail d (fun k h1 h2 h3 => h k h1 (by omega) h3)
    by_cases hS : S (m + d) = true
    · rw [if_pos hS]
      obtain ⟨h1, h2⟩ := h (m + d) (by omega) (by omega) hS
      cases he : evt (m + d) with
      | x Hb Ha => exact absurd he (h1 Hb Ha)
      | a id blk =>
        simp only []
        rw [if_neg (fun e => h2 blk (by rw [he, e]))]
        exact ih
      | _ => exact ih
    · rw [if_neg hS]; exact ih
theorem heapS_upto {S : Nat → Bool} {m k b : Nat} (hk : m ≤ k) (h : ∀ i, m ≤ i → i < k → S i = true → (∀ Hb Ha, evt i ≠ .x Hb Ha) ∧ ∀ blk, evt i ≠ .a b blk) : (heapS st evt S nB k).get b = (heapS st evt S nB m).get b := by
  have := heapS_tail (st := st) (nB := nB) (S := S) (m := m) (b := b) (evt := evt) (k - m) (fun i h1 h2 h3 => h i h1 (by omega) h3)
  rwa [show m + (k - m) = k by omega] at this
/-- Blocks that a set of operations knows. -/
def domS (ops : Array Oper) (st : Nat → ASt) (S : Nat → Bool) (b : Nat) : Prop := ¬ ((st 0).H.n ≤ b ∧ b < (st ops.size).H.n) ∨ ∃ i, S i = true ∧ i < ops.size ∧ (st i).H.n ≤ b ∧ b < (st (i + 1)).H.n
theorem DC.id_lt (C : DC P Φ nt ops st val evt) (hΦ : ∀ f, Sound P f (Φ f)) {k id : Nat} {blk : ABlk} (hk : k < ops.size) (he : evt k = .a id blk) : id = (st k).H.n ∧ (st (k + 1)).H.n = id + 1 ∧ (st (k + 1)).H = (st k).H.push blk ∧ blk.rw = true ∧ (st (k + 1)).ds = (st k).ds := by
  obtain ⟨o, ho⟩ := op_at hk
  obtain ⟨co, _, F⟩ := C.facts hΦ ho
  obtain ⟨h1, h2, h3, _, h4⟩ := F.a id blk he
  exact ⟨h1, by rw [h2, AHeap.n_push, h1], h2, h4, h3⟩
theorem DC.heapS_pre (C : DC P Φ nt ops st val evt) (hΦ : ∀ f, Sound P f (Φ f)) {S : Nat → Bool} {b : Nat} (hb : domS ops st S b) : ∀ m, m ≤ ops.size → (∀ i Hb Ha, i < m → evt i = .x Hb Ha → S i = true) → (heapS st evt S nB m).get b = (st m).H.get b
  | 0, _, _ => rfl
  | m + 1, hm, hx => by
    have ih := C.heapS_pre hΦ hb m (by omega) (fun i Hb Ha hi => hx i Hb Ha (by omega))
    obtain ⟨o, ho⟩ := op_at (ops := ops) (i := m) (by omega)
    obtain ⟨co, _, F⟩ := C.facts hΦ ho
    rw [heapS_succ]
    cases he : evt m with
    | p =>
      have := (F.p he).1
      rw [this]; by_cases hS : S m = true <;> simp [hS, ih]
    | r b' n g u =>
      have := (F.r _ _ _ _ he).1
      rw [this]; by_cases hS : S m = true <;> simp [hS, ih]
    | x Hb Ha =>
      have h1 := hx m Hb Ha (by omega) he
      rw [if_pos h1]
      rw [(F.x Hb Ha he).2.1]
    | a id blk =>
      obtain ⟨h1, h2, h3, _⟩ := C.id_lt hΦ (by omega) he
      rw [h3, AHeap.get_push, ← h1]
      by_cases hS : S m = true
      · rw [if_pos hS, ih]
      · rw [if_neg hS, ih, if_neg]
        intro e
        rcases hb with hb | ⟨i, hi, hi1, hi2, hi3⟩
        · apply hb
          have h4 := C.n_mono hΦ (Nat.zero_le m) (by omega)
          have h5 := C.n_mono hΦ (show m + 1 ≤ ops.size by omega) (Nat.le_refl _)
          omega
        · have hne : i ≠ m := by intro k; rw [k] at hi; exact hS hi
          rcases Nat.lt_or_gt_of_ne hne with h | h
          · have := C.n_mono hΦ (show i + 1 ≤ m by omega) (by omega); omega
          · have := C.n_mono hΦ (show m + 1 ≤ i by omega) (by omega); omega
/-- What acts and is not ready yet: nothing behind it acts. -/
theorem DC.x_lt (C : DC P Φ nt ops st val evt) {S : Nat → Bool} (hd : Down ops S) (hbnd : ∀ i, S i = true → i < ops.size) {p k : Nat} {Hb Ha Hb' Ha' : AHeap} (hp : p < ops.size) (hpx : evt p = .x Hb Ha) (hS : S p = false) (hk : p ≤ k) (hkx : evt k = .x Hb' Ha') : S k = false := by
  cases hs : S k with
  | false => rfl
  | true =>
    have hkb := hbnd k hs
    have hne : p ≠ k := by intro e; rw [e] at hS; rw [hS] at hs; simp at hs
    have hor := C.xOk p k Hb Ha Hb' Ha' hne hp hkb hpx hkx
    obtain ⟨q, hq⟩ := op_at hkb
    obtain ⟨q', hq'⟩ := op_at hp
    unfold ordered at hor
    rw [Bool.or_eq_true] at hor
    rcases hor with h | h
    · have := ahead_in hd C.lt k q hq (fun e he hb => hd k q hq hs e he hb) p h
      rw [hS] at this; simp at this
    · have := C.ahead_lt p q' hq' k h; omega
theorem DC.read_ok (C : DC P Φ nt ops st val evt) (hΦ : ∀ f, Sound P f (Φ f)) {S : Nat → Bool} {j : Nat} {o : Oper} (R : Ready ops S j o) {b n : Nat} {g : ABlk → Option AVal} {u : AVal} (he : evt j = .r b n g u) (hb : domS ops st S b) : g ((heapS st evt S nB ops.size).get b) = some u := by
  have hj := R.lt
  obtain ⟨co, _, F⟩ := C.facts hΦ R.at_
  obtain ⟨_, _, hn, hg, _⟩ := F.r b n g u he
  by_cases hA : ∃ p Hb Ha, p < j ∧ evt p = .x Hb Ha ∧ S p = false
  · obtain ⟨p0, Hb0, Ha0, h1, h2, h3⟩ := hA
    obtain ⟨p, hp0, ⟨Hb, Ha, hpx, hpS⟩, hmin⟩ := min_ex (fun p => ∃ Hb Ha, evt p = .x Hb Ha ∧ S p = false) p0 ⟨Hb0, Ha0, h2, h3⟩
    have hpj : p < j := by omega
    obtain ⟨a1, a2, a3⟩ := C.agrR j p b n g u Hb Ha hj (by omega) he hpx (C.un_open R hpS hpj)
    obtain ⟨op, hop⟩ := op_at (ops := ops) (i := p) (by omega)
    obtain ⟨cp, _, Fp⟩ := C.facts hΦ hop
    obtain ⟨hHb, _, _⟩ := Fp.x Hb Ha hpx
    rw [heapS_upto (show p ≤ ops.size by omega) (fun i h4 h5 h6 => ⟨fun Hb' Ha' hx => ?_, fun blk hx => ?_⟩)]
    · rw [C.heapS_pre hΦ hb p (by omega) (fun i Hb' Ha' hi hx => ?_), ← hHb]
      · exact a2
      · cases hs : S i with
        | true => rfl
        | false => exact absurd ⟨Hb', Ha', hx, hs⟩ (hmin i hi)
    · have := C.x_lt R.down R.bnd (by omega) hpx hpS h4 hx
      rw [h6] at this; simp at this
    · have := (C.id_lt hΦ h5 hx).1
      have h7 := C.n_mono hΦ h4 (by omega)
      rw [hHb] at a1; omega
  · have hall : ∀ i Hb Ha, i < j → evt i = .x Hb Ha → S i = true := by
      intro i Hb Ha hi hx
      cases hs : S i with
      | true => rfl
      | false => exact absurd ⟨i, Hb, Ha, hi, hx, hs⟩ hA
    by_cases hB : ∃ k, k < ops.size ∧ (j < k ∧ S k = true ∧ ∃ Hb Ha, evt k = .x Hb Ha)
    · obtain ⟨k, hk, ⟨hjk, hkS, Hb, Ha, hkx⟩, hmax⟩ := max_ex _ ops.size hB
      obtain ⟨a1, a2, a3⟩ := C.agrR j k b n g u Hb Ha hj hk he hkx (C.un_done R hkS hjk)
      obtain ⟨ok, hok⟩ := op_at hk
      obtain ⟨ck, _, Fk⟩ := C.facts hΦ hok
      obtain ⟨hHb, hHa, _⟩ := Fk.x Hb Ha hkx
      rw [heapS_upto (show k + 1 ≤ ops.size by omega) (fun i h4 h5 h6 => ⟨fun Hb' Ha' hx => ?_, fun blk hx => ?_⟩)]
      · rw [heapS_succ, if_pos hkS, hkx]; exact a3
      · exact hmax i (by omega) h5 ⟨by omega, h6, Hb', Ha', hx⟩
      · have := (C.id_lt hΦ h5 hx).1
        have h7 := C.n_mono hΦ (show k ≤ i by omega) (by omega)
        rw [hHb] at a1; omega
    · rw [heapS_upto (show j ≤ ops.size by omega) (fun i h4 h5 h6 => ⟨fun Hb' Ha' hx => ?_, fun blk hx => ?_⟩)]
      · rw [C.heapS_pre hΦ hb j (by omega) hall]; exact hg
      · have : i ≠ j := by intro e; rw [e, R.out] at h6; simp at h6
        exact hB ⟨i, h5, by omega, h6, Hb', Ha', hx⟩
      · have h8 := (C.id_lt hΦ h5 hx).1
        have h7 := C.n_mono hΦ h4 (by omega)
        have h9 := C.ins j b n g u hj he
        omega
end
end Go.Eng

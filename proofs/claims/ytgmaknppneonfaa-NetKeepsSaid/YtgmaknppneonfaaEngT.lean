/- The engine, twentieth part: one more operation, in any order. -/
import Derived.Test.YtgmaknppneonfaaEngS
set_option linter.unusedSimpArgs false
set_option linter.unusedVariables false
namespace Go.Eng
variable {P : Program}
section
variable {Φ : Phi} {nt : Nat} {ops : Array Oper} {st : Nat → ASt} {val : Nat → AVal} {evt : Nat → Ev}

/-- A block that an operation behind j has made already. -/
def Later (ops : Array Oper) (evt : Nat → Ev) (S : Nat → Bool) (j b : Nat) : Prop := ∃ k blk, j < k ∧ k < ops.size ∧ S k = true ∧ evt k = .a b blk
theorem DC.later_get (C : DC P Φ nt ops st val evt) (hΦ : ∀ f, Sound P f (Φ f)) {S S' : Nat → Bool} {j k b : Nat} {blk : ABlk} {nB : Nat} (hk : k < ops.size) (hS : S' k = true) (he : evt k = .a b blk) (hno : ∀ i, k < i → i < ops.size → S' i = true → ∀ Hb Ha, evt i ≠ .x Hb Ha) :
    (heapS st evt S' nB ops.size).get b = blk := by
  rw [heapS_upto (show k + 1 ≤ ops.size by omega) (fun i h1 h2 h3 => ⟨hno i (by omega) h2 h3, fun blk' h => ?_⟩)]
  · rw [heapS_succ, if_pos hS, he]; simp
  · have h4 := (C.id_lt hΦ hk he)
    have h5 := (C.id_lt hΦ h2 h).1
    have := C.n_mono hΦ h1 (by omega)
    omega

/-- All that acted ahead of j has, and nothing behind it. -/
theorem DC.x_all (C : DC P Φ nt ops st val evt) {S : Nat → Bool} {j : Nat} {o : Oper} (R : Ready ops S j o) {Hb Ha : AHeap} (he : evt j = .x Hb Ha) :
    (∀ i Hb' Ha', i < j → evt i = .x Hb' Ha' → S i = true) ∧ ∀ i Hb' Ha', j ≤ i → evt i = .x Hb' Ha' → S i = false := by
  have hj := R.lt
  constructor
  · intro i Hb' Ha' hi hx
    cases hs : S i with
    | true => rfl
    | false =>
      have h1 := C.un_open R hs hi
      have h2 := C.xOk i j Hb' Ha' Hb Ha (by omega) (by omega) hj hx he
      unfold ordered at h1 h2
      rw [Bool.or_comm] at h1
      rw [h2] at h1; simp at h1
  · intro i Hb' Ha' hi hx
    exact C.x_lt R.down R.bnd hj he R.out hi hx

theorem DC.x_get (C : DC P Φ nt ops st val evt) (hΦ : ∀ f, Sound P f (Φ f)) (hwf : (st 0).H.wf) {S : Nat → Bool} {j : Nat} {o : Oper} (R : Ready ops S j o) {Hb Ha : AHeap} (he : evt j = .x Hb Ha) {nB : Nat} (b : Nat) :
    (Later ops evt S j b ∧ (st j).H.get b = .dead ∧ (st (j + 1)).H.get b = .dead ∧ ∃ blk, blk.rw = true ∧ (heapS st evt S nB ops.size).get b = blk ∧ (heapS st evt (addS S j) nB ops.size).get b = blk) ∨
    (¬ Later ops evt S j b ∧ (domS ops st S b → (heapS st evt S nB ops.size).get b = (st j).H.get b) ∧ (heapS st evt (addS S j) nB ops.size).get b = (st (j + 1)).H.get b) := by
  have hj := R.lt
  obtain ⟨hx1, hx2⟩ := C.x_all R he
  obtain ⟨co, _, F⟩ := C.facts hΦ R.at_
  obtain ⟨_, hHa, _⟩ := F.x Hb Ha he
  by_cases hL : Later ops evt S j b
  · left
    obtain ⟨k, blk, h1, h2, h3, h4⟩ := hL
    have h5 := C.id_lt hΦ h2 h4
    refine ⟨⟨k, blk, h1, h2, h3, h4⟩, ?_, ?_, blk, h5.2.2.2.1, ?_, ?_⟩
    · refine C.wf hΦ hwf j (by omega) b ?_
      have := C.n_mono hΦ (show j ≤ k by omega) (by omega); omega
    · refine C.wf hΦ hwf (j + 1) (by omega) b ?_
      have := C.n_mono hΦ (show j + 1 ≤ k by omega) (by omega); omega
    · exact C.later_get (S := S) (j := j) hΦ h2 h3 h4 (fun i h6 h7 h8 Hb' Ha' hx => by have := hx2 i Hb' Ha' (by omega) hx; rw [h8] at this; simp at this)
    · refine C.later_get (S := S) (j := j) hΦ h2 (by rw [addS_ne S (by omega)]; exact h3) h4 (fun i h6 h7 h8 Hb' Ha' hx => ?_)
      rw [addS_ne S (by omega)] at h8
      have := hx2 i Hb' Ha' (by omega) hx; rw [h8] at this; simp at this
  · right
    refine ⟨hL, fun hb => ?_, ?_⟩
    · rw [heapS_upto (show j ≤ ops.size by omega) (fun i h1 h2 h3 => ⟨fun Hb' Ha' hx => ?_, fun blk hx => ?_⟩)]
      · exact C.heapS_pre hΦ hb j (by omega) hx1
      · have := hx2 i Hb' Ha' h1 hx; rw [h3] at this; simp at this
      · have hne : i ≠ j := by intro e; rw [e, R.out] at h3; simp at h3
        exact hL ⟨i, blk, by omega, h2, h3, hx⟩
    · rw [heapS_upto (show j + 1 ≤ ops.size by omega) (fun i h1 h2 h3 => ⟨fun Hb' Ha' hx => ?_, fun blk hx => ?_⟩)]
      · rw [heapS_succ, if_pos (addS_at S j), he, ← hHa]
      · rw [addS_ne S (by omega)] at h3
        have := hx2 i Hb' Ha' (by omega) hx; rw [h3] at this; simp at this
      · rw [addS_ne S (by omega)] at h3
        exact hL ⟨i, blk, by omega, h2, h3, hx⟩
theorem DC.a_get (C : DC P Φ nt ops st val evt) (hΦ : ∀ f, Sound P f (Φ f)) {S : Nat → Bool} {j : Nat} {o : Oper} (R : Ready ops S j o) {id : Nat} {blk : ABlk} (he : evt j = .a id blk) {nB : Nat} :
    (heapS st evt (addS S j) nB ops.size).get id = blk ∧ ∀ b, b ≠ id → (heapS st evt (addS S j) nB ops.size).get b = (heapS st evt S nB ops.size).get b := by
  have hj := R.lt
  have hid := C.id_lt hΦ hj he
  constructor
  · have : ∀ d, j + 1 + d ≤ ops.size → (heapS st evt (addS S j) nB (j + 1 + d)).get id = blk := by
      intro d
      induction d with
      | zero => intro _; rw [Nat.add_zero, heapS_succ, if_pos (addS_at S j), he]; simp
      | succ d ih =>
        intro hd
        rw [show j + 1 + (d + 1) = (j + 1 + d) + 1 by omega, heapS_succ]
        rw [addS_ne S (by omega)]
        by_cases hS : S (j + 1 + d) = true
        · rw [if_pos hS]
          cases hk : evt (j + 1 + d) with
          | x Hb Ha =>
            exact C.agrA j (j + 1 + d) id blk Hb Ha (by omega) (by omega) he hk (C.un_done R hS (by omega))
          | a id' blk' =>
            simp only []
            have h5 := C.id_lt hΦ (by omega) hk
            have h6 := C.n_mono hΦ (show j + 1 ≤ j + 1 + d by omega) (by omega)
            rw [if_neg (by omega)]
            exact ih (by omega)
          | _ => exact ih (by omega)
        · rw [if_neg hS]; exact ih (by omega)
    have := this (ops.size - (j + 1)) (by omega)
    rwa [show j + 1 + (ops.size - (j + 1)) = ops.size by omega] at this
  · intro b hb
    have : ∀ k, k ≤ ops.size → (heapS st evt (addS S j) nB k).get b = (heapS st evt S nB k).get b := by
      intro k
      induction k with
      | zero => intro _; rfl
      | succ k ih =>
        intro hk
        rw [heapS_succ, heapS_succ, ih (by omega)]
        by_cases e : k = j
        · subst e
          rw [if_pos (addS_at S k), R.out, he]
          simp [hb]
        · rw [addS_ne S e]
    exact this ops.size (Nat.le_refl _)
theorem DC.ds_x (C : DC P Φ nt ops st val evt) (hΦ : ∀ f, Sound P f (Φ f)) {S : Nat → Bool} {j : Nat} {o : Oper} (R : Ready ops S j o) {Hb Ha : AHeap} (he : evt j = .x Hb Ha) :
    dsS st evt S ops.size = (st j).ds ∧ dsS st evt (addS S j) ops.size = (st (j + 1)).ds := by
  have hj := R.lt
  obtain ⟨hx1, hx2⟩ := C.x_all R he
  have pre : ∀ k, k ≤ j → dsS st evt S k = (st k).ds := by
    intro k
    induction k with
    | zero => intro _; rfl
    | succ k ih =>
      intro hk
      obtain ⟨q, hq⟩ := op_at (ops := ops) (i := k) (by omega)
      obtain ⟨co, _, F⟩ := C.facts hΦ hq
      simp only [dsS, ih (by omega)]
      cases hx : evt k with
      | x Hb' Ha' => rw [if_pos (hx1 k Hb' Ha' (by omega) hx)]
      | p => have := (F.p hx).2; by_cases hS : S k = true <;> simp [hS, this]
      | r b n g u => have := (F.r b n g u hx).2.1; by_cases hS : S k = true <;> simp [hS, this]
      | a id blk => have := (F.a id blk hx).2.2.1; by_cases hS : S k = true <;> simp [hS, this]
  have tail : ∀ (T : Nat → Bool) (m : Nat), (∀ i, m ≤ i → T i = true → ∀ Hb Ha, evt i ≠ .x Hb Ha) → ∀ d, dsS st evt T (m + d) = dsS st evt T m := by
    intro T m h d
    induction d with
    | zero => rfl
    | succ d ih =>
      rw [show m + (d + 1) = (m + d) + 1 by omega]
      simp only [dsS, ih]
      by_cases hT : T (m + d) = true
      · rw [if_pos hT]
        cases hx : evt (m + d) with
        | x Hb' Ha' => exact absurd hx (h (m + d) (by omega) hT Hb' Ha')
        | _ => rfl
      · rw [if_neg hT]
  constructor
  · have := tail S j (fun i h1 h2 Hb' Ha' hx => by have := hx2 i Hb' Ha' h1 hx; rw [h2] at this; simp at this) (ops.size - j)
    rw [show j + (ops.size - j) = ops.size by omega] at this
    rw [this, pre j (Nat.le_refl _)]
  · have := tail (addS S j) (j + 1) (fun i h1 h2 Hb' Ha' hx => by
      rw [addS_ne S (by omega)] at h2
      have := hx2 i Hb' Ha' (by omega) hx; rw [h2] at this; simp at this) (ops.size - (j + 1))
    rw [show j + 1 + (ops.size - (j + 1)) = ops.size by omega] at this
    rw [this]
    simp only [dsS, addS_at, if_true, he]

set_option maxHeartbeats 1000000 in
theorem inv_step (C : DC P Φ nt ops st val evt) (hΦ : ∀ f, Sound P f (Φ f)) (hwf : (st 0).H.wf) {E0 E : Env} {w0 w : World} (hF : Fresh E0 (st 0).H.n (st ops.size).H.n) {S : Nat → Bool} {a : Act} (I : Inv ops st val evt nt E0 w0 S E a w) {j : Nat} {o : Oper} (R : Ready ops S j o)
    {K : Act → World → Prop} {Q : Exit → Act → World → Prop} (hK : ∀ E' a' w', Inv ops st val evt nt E0 w0 (addS S j) E' a' w' → K a' w') :
    (if Region.wanted o (yielded ops a.tmps) then o.wp P a w K Q ∨ (o.asks P a w ∧ LetsOut Q) else K (a.put o.dst undef) w) := by
  have hj := R.lt
  obtain ⟨co, hco, h⟩ := C.tr j o R.at_
  obtain ⟨hop, hdst, hlt, _⟩ := comp_oper hco
  have T := I.trel C hΦ R
  -- a step that turns nothing
  have calm : ∀ (x : Value) (a' : Act), cv E (val j) = some x → (evt j = .p ∨ ∃ b n g u, evt j = .r b n g u) → a'.tmps = (a.put o.dst x).tmps → a'.defers = a.defers → Inv ops st val evt nt E0 w0 (addS S j) E a' w := by
    intro x a' hx hev he hd
    obtain ⟨h1, h2⟩ := I.tm_add C R hlt (Env.le_refl E) hx he
    have hH := heapS_same (st := st) (S := S) hev (nB := (st ops.size).H.n) ops.size
    have hD := dsS_same (st := st) (S := S) (j := j) (evt := evt) (fun Hb Ha k => by rcases hev with h | ⟨_, _, _, _, h⟩ <;> rw [h] at k <;> simp at k) ops.size
    have hn : (st (j + 1)).H.n = (st j).H.n := by
      obtain ⟨co', _, F⟩ := C.facts hΦ R.at_
      rcases hev with h | ⟨b, n, g, u, h⟩
      · rw [(F.p h).1]
      · rw [(F.r _ _ _ _ h).1]
    exact ⟨down_add R, bnd_add R, h1, h2, by rw [hD, hd]; exact I.D, by rw [hH]; exact I.R, by rw [hH]; exact I.X,
      fun b hb => (I.dom b hb).imp id (fun ⟨i, h3, h4⟩ => ⟨i, by by_cases e : i = j; (rw [e]; exact addS_at S j); (rw [addS_ne S e]; exact h3), h4⟩),
      fun i b hi h3 h4 => by
        by_cases e : i = j
        · rw [e] at h3 h4; omega
        · rw [addS_ne S e] at hi; exact I.all i b hi h3 h4⟩
  unfold astepD at h
  split at h
  · rename_i hw
    have hwant := wanted_sound hco T hw
    rw [if_pos hwant]
    left
    simp only [Option.map_eq_some_iff, Prod.exists, Prod.mk.injEq] at h
    obtain ⟨v, H', ds', e', ha, hst, hval, hev⟩ := h
    have hop := compOp_of hop ha
    cases hcop : co.op with
    | p c =>
      rw [hcop] at ha hop
      simp only [aop, Option.map_eq_some_iff, Prod.mk.injEq] at ha
      obtain ⟨v', hv, rfl, _, _, rfl⟩ := ha
      obtain ⟨x, hr, hx⟩ := pop_sound T hop hv w
      simp only [Oper.wp, hr, Oper.upon_value]
      rw [hval] at hx
      exact hK E _ w (calm x _ hx (.inl hev.symm) rfl (act_put_defers _ _ _))
    | r c =>
      rw [hcop] at ha hop
      have : ∃ rd, ard (restrict (opUses ops o) (st j).tm) c = some rd ∧ rd.get (heapS st evt S (st ops.size).H.n ops.size) = some v ∧ (evt j = .p ∨ ∃ b n g u, evt j = .r b n g u) := by
        simp only [aop] at ha
        split at ha
        · rename_i x hx
          simp only [Option.map_eq_some_iff, Prod.mk.injEq] at ha
          obtain ⟨v', rfl, rfl, _, _, rfl⟩ := ha
          exact ⟨_, hx, rfl, .inl hev.symm⟩
        · rename_i b g hx
          simp only [Option.map_eq_some_iff, Prod.mk.injEq] at ha
          obtain ⟨v', hv, rfl, _, _, rfl⟩ := ha
          have hb := ard_dom T hop hx
          exact ⟨_, hx, C.read_ok hΦ R hev.symm (I.domS hF hb), .inr ⟨_, _, _, _, hev.symm⟩⟩
        · simp at ha
      obtain ⟨rd, har, hv, hev'⟩ := this
      obtain ⟨x, hr, hx⟩ := rop_sound I.R T hop har hv
      simp only [Oper.wp, hr, Oper.upon_value]
      rw [hval] at hx
      exact hK E _ w (calm x _ hx hev' rfl (act_put_defers _ _ _))
    | a c =>
      rw [hcop] at ha hop
      simp only [aop, Option.map_eq_some_iff, Prod.exists, Prod.mk.injEq] at ha
      obtain ⟨blk, f, haal, rfl, hH', rfl, rfl⟩ := ha
      have hev := hev.symm
      obtain ⟨hg1, hg2⟩ := C.a_get hΦ R hev (nB := (st ops.size).H.n)
      obtain ⟨_, hn1, _, _, hds⟩ := C.id_lt hΦ hj hev
      obtain ⟨x, w', obj, l, hr, hW, hl, hB⟩ := aop_sound T hop haal w
      have hlo := C.n_mono hΦ (Nat.zero_le j) (by omega)
      have hhi := C.n_mono hΦ (show j + 1 ≤ ops.size by omega) (Nat.le_refl _)
      have hid : E (st j).H.n = none := by
        cases hE : E (st j).H.n with
        | none => rfl
        | some q =>
          rcases I.dom (st j).H.n (by simp [hE]) with h1 | ⟨i, h1, h2, h3⟩
          · exact absurd (hF _ (by omega) (by omega)) h1
          · have hne : i ≠ j := by intro k; rw [k, R.out] at h1; simp at h1
            have hib := I.bnd i h1
            rcases Nat.lt_or_gt_of_ne hne with h | h
            · have := C.n_mono hΦ (show i + 1 ≤ j by omega) (by omega); omega
            · have := C.n_mono hΦ (show j + 1 ≤ i by omega) (by omega); omega
      have hle : E.le (E.upd (st j).H.n l) := Env.le_upd hid
      simp only [Oper.wp, hr, Oper.upon_value]
      have hxv : cv (E.upd (st j).H.n l) (val j) = some x := by rw [← hval]; exact (hB _ _ hle (Env.upd_at _ _ _)).1
      obtain ⟨h1, h2⟩ := I.tm_add (a' := a.put o.dst x) C R hlt hle hxv rfl
      have hD := dsS_same (st := st) (S := S) (j := j) (evt := evt) (fun Hb Ha k => by rw [hev] at k; simp at k) ops.size
      refine hK (E.upd (st j).H.n l) _ w' ⟨down_add R, bnd_add R, h1, h2, ?_, ?_, I.X.trans ?_, ?_, ?_⟩
      · rw [hD, act_put_defers]; exact I.D.mono hle
      · exact I.R.made hid hl hW (fun E' le hl' => (hB E' _ le hl').2) hg1 (fun b hb _ => hg2 b hb)
      · refine ⟨hle, by rw [hW.size]; omega, hW.os, hW.tape, hW.output, fun c hc _ => hW.old c hc, fun b k hb he => ?_, fun b hb hr => ?_, fun b hb hr => ?_⟩
        · by_cases e : b = (st j).H.n
          · subst e; rw [Env.upd_at] at hb; simp only [Option.some.injEq] at hb; subst hb; left; omega
          · rw [Env.upd_ne E l e] at hb; simp [hb] at he
        · rw [hg2 b (fun e => hb (e ▸ hid))]; exact hr
        · rw [hg2 b (fun e => hb (e ▸ hid))]; exact hr
      · intro b hb
        by_cases e : b = (st j).H.n
        · exact .inr ⟨j, addS_at S j, by omega, by omega⟩
        · rw [Env.upd_ne E l e] at hb
          exact (I.dom b hb).imp id (fun ⟨i, h3, h4⟩ => ⟨i, by by_cases k : i = j; (rw [k]; exact addS_at S j); (rw [addS_ne S k]; exact h3), h4⟩)
      · intro i b hi h3 h4
        by_cases e : i = j
        · rw [e] at h3 h4
          have : b = (st j).H.n := by omega
          rw [this, Env.upd_at]; simp
        · rw [addS_ne S e] at hi
          have := I.all i b hi h3 h4
          intro k
          exact this (by cases hE : E b with
            | none => rfl
            | some q => rw [hle b q hE] at k; simp at k)
    | x c =>
      rw [hcop] at ha hop
      have hev' : ∃ Hb Ha, evt j = .x Hb Ha := by
        simp only [aop, Option.map_eq_some_iff, Prod.exists, Prod.mk.injEq] at ha
        obtain ⟨_, _, _, _, _, _, _, rfl⟩ := ha
        exact ⟨_, _, hev.symm⟩
      obtain ⟨Hb, Ha, hevx⟩ := hev'
      have xg := fun b => C.x_get hΦ hwf R hevx (nB := (st ops.size).H.n) b
      obtain ⟨hds1, hds2⟩ := C.ds_x hΦ R hevx
      -- the heap of the text's order stands to the world
      have hRj : Rel E (st j).H w := by
        refine ⟨fun b l hb => ?_, fun b c l k hb hc he h1 h2 => ?_, I.R.lt⟩
        · rcases xg b with ⟨_, hd, _⟩ | ⟨_, hs, _⟩
          · rw [hd]; trivial
          · rw [← hs (I.domS hF (by simp [hb]))]; exact I.R.blk b l hb
        · rcases xg b with ⟨_, hd, _⟩ | ⟨_, hs, _⟩
          · rw [hd] at h1; simp [ABlk.rw] at h1
          · rcases xg c with ⟨_, hd', _⟩ | ⟨_, hs', _⟩
            · rw [hd'] at h2; simp [ABlk.alive] at h2
            · rw [← hs (I.domS hF (by simp [hb]))] at h1
              rw [← hs' (I.domS hF (by simp [hc]))] at h2
              exact I.R.inj b c l k hb hc he h1 h2
      have hS : SRel E ⟨restrict (opUses ops o) (st j).tm, (st j).H, (st j).ds⟩ a w nt :=
        ⟨C.wf hΦ hwf j (by omega), T, by rw [← hds1]; exact I.D, hRj, I.sz⟩
      obtain ⟨_, hstep⟩ := aop_step hΦ hS hop ha
      have hH' : H' = (st (j + 1)).H := by rw [← hst]
      have hds' : ds' = (st (j + 1)).ds := by rw [← hst]
      subst hH'; subst hds'
      have hlo := C.n_mono hΦ (Nat.zero_le j) (by omega)
      have hhi := C.n_mono hΦ (show j + 1 ≤ ops.size by omega) (Nat.le_refl _)
      have hFj : Fresh E (st j).H.n (st (j + 1)).H.n := by
        intro b h1 h2
        cases hE : E b with
        | none => rfl
        | some q =>
          rcases I.dom b (by simp [hE]) with h3 | ⟨i, h3, h4, h5⟩
          · exact absurd (hF b (by omega) (by omega)) h3
          · have hne : i ≠ j := by intro k; rw [k, R.out] at h3; simp at h3
            have hib := I.bnd i h3
            rcases Nat.lt_or_gt_of_ne hne with h | h
            · have := C.n_mono hΦ (show i + 1 ≤ j by omega) (by omega); omega
            · have := C.n_mono hΦ (show j + 1 ≤ i by omega) (by omega); omega
      refine hstep hFj fun E' a' w' x X R' hx htm hD => ?_
      rw [hval] at hx
      obtain ⟨h1, h2⟩ := I.tm_add (a' := a') C R hlt X.le hx htm
      -- blocks made behind j lie where they lay
      have lat : ∀ b l, E' b = some l → Later ops evt S j b → E b = some l ∧ w'.heap[l.blk]? = w.heap[l.blk]? := by
        intro b l hb hL
        obtain ⟨k, blk, k1, k2, k3, k4⟩ := hL
        have hk := C.id_lt hΦ k2 k4
        have hEb := I.all k b k3 (by omega) (by omega)
        obtain ⟨q, hq⟩ : ∃ q, E b = some q := Option.ne_none_iff_exists'.1 hEb
        have := X.le b q hq
        rw [hb] at this; simp only [Option.some.injEq] at this; subst this
        refine ⟨hq, X.frame _ (I.R.lt b l hq) fun b' l' hb' hl' => ?_⟩
        rcases xg b' with ⟨_, hd, _⟩ | ⟨hnL, hs, _⟩
        · simp only; rw [hd]; rfl
        · cases hr : ((st j).H.get b').rw with
          | false => rfl
          | true =>
            rw [← hs (I.domS hF (by simp [hb']))] at hr
            have hal : ((heapS st evt S (st ops.size).H.n ops.size).get b).alive = true := by
              rcases xg b with ⟨_, _, _, bk, hrw, hh, _⟩ | ⟨hn, _⟩
              · rw [hh]; exact rw_alive hrw
              · exact absurd ⟨k, blk, k1, k2, k3, k4⟩ hn
            have := I.R.inj b' b l' l hb' hq hl' hr hal
            rw [this] at hnL
            exact absurd ⟨k, blk, k1, k2, k3, k4⟩ hnL
      refine hK E' a' w' ⟨down_add R, bnd_add R, h1, h2, by rw [hds2]; exact hD, ?_, I.X.trans ?_, ?_, ?_⟩
      · refine ⟨fun b l hb => ?_, fun b c l k hb hc he hr ha' => ?_, R'.lt⟩
        · rcases xg b with ⟨hL, _, _, bk, hrw, hh1, hh2⟩ | ⟨_, _, hs⟩
          · obtain ⟨hq, hsame⟩ := lat b l hb hL
            rw [hh2, ← hh1, hsame]
            exact (I.R.blk b l hq).mono X.le
          · rw [hs]; exact R'.blk b l hb
        · -- two that share a place are one
          rcases xg b with ⟨hL, hd1, hd2, bk, hrw, hh1, hh2⟩ | ⟨hnL, hs0, hs⟩
          · obtain ⟨hq, _⟩ := lat b l hb hL
            have hbr : ((heapS st evt S (st ops.size).H.n ops.size).get b).rw = true := by rw [hh1]; exact hrw
            cases hEc : E c with
            | some m =>
              have := X.le c m hEc
              rw [hc] at this; simp only [Option.some.injEq] at this; subst this
              refine I.R.inj b c l k hq hEc he hbr ?_
              rcases xg c with ⟨_, _, _, bk', hrw', hh1', hh2'⟩ | ⟨_, hs0', hs'⟩
              · rw [hh1']; exact rw_alive hrw'
              · rw [hs'] at ha'
                rw [hs0' (I.domS hF (by simp [hEc]))]
                cases hal : ((st j).H.get c).alive with
                | true => rfl
                | false => have := X.dead c (by simp [hEc]) hal; (try simp only at this); rw [this] at ha'; simp at ha'
            | none =>
              exfalso
              rcases X.loc c k hc hEc with h3 | ⟨d, m, h3, h4, h5⟩
              · have := I.R.lt b l hq; omega
              · simp only at h5
                rcases xg d with ⟨_, hdd, _⟩ | ⟨hnd, hsd, _⟩
                · rw [hdd] at h5; simp [ABlk.rw] at h5
                · rw [← hsd (I.domS hF (by simp [h3]))] at h5
                  have := I.R.inj b d l m hq h3 (by omega) hbr (rw_alive h5)
                  rw [this] at hL; exact hnd hL
          · rw [hs] at hr
            rcases xg c with ⟨hL', hd1', hd2', bk', hrw', hh1', hh2'⟩ | ⟨_, hs0', hs'⟩
            · obtain ⟨hq', _⟩ := lat c k hc hL'
              have hcr : ((heapS st evt S (st ops.size).H.n ops.size).get c).rw = true := by rw [hh1']; exact hrw'
              cases hEb : E b with
              | some m =>
                have := X.le b m hEb
                rw [hb] at this; simp only [Option.some.injEq] at this; subst this
                refine (I.R.inj c b k l hq' hEb he.symm hcr ?_).symm
                rw [hs0 (I.domS hF (by simp [hEb]))]
                cases hal : ((st j).H.get b).alive with
                | true => rfl
                | false => have := X.dead b (by simp [hEb]) hal; (try simp only at this); have h9 := rw_alive hr; rw [this] at h9; simp at h9
              | none =>
                exfalso
                rcases X.loc b l hb hEb with h3 | ⟨d, m, h3, h4, h5⟩
                · have := I.R.lt c k hq'; omega
                · simp only at h5
                  rcases xg d with ⟨_, hdd, _⟩ | ⟨hnd, hsd, _⟩
                  · rw [hdd] at h5; simp [ABlk.rw] at h5
                  · rw [← hsd (I.domS hF (by simp [h3]))] at h5
                    have := I.R.inj c d k m hq' h3 (by omega) hcr (rw_alive h5)
                    rw [this] at hL'; exact hnd hL'
            · rw [hs'] at ha'
              exact R'.inj b c l k hb hc he hr ha'
      · refine ⟨X.le, X.size, X.os, X.tape, X.output, fun c hc hE => X.frame c hc fun b l hb hl => ?_, fun b l hb he => ?_, fun b hb hr => ?_, fun b hb hr => ?_⟩
        · rcases xg b with ⟨_, hd, _⟩ | ⟨_, hs, _⟩
          · simp only; rw [hd]; rfl
          · simp only; rw [← hs (I.domS hF (by simp [hb]))]; exact hE b l hb hl
        · rcases X.loc b l hb he with h3 | ⟨d, m, h3, h4, h5⟩
          · exact .inl h3
          · refine .inr ⟨d, m, h3, h4, ?_⟩
            simp only at h5
            rcases xg d with ⟨_, hdd, _⟩ | ⟨_, hsd, _⟩
            · rw [hdd] at h5; simp [ABlk.rw] at h5
            · rw [hsd (I.domS hF (by simp [h3]))]; exact h5
        · rcases xg b with ⟨_, _, _, bk, hrw, hh1, _⟩ | ⟨_, hs0, hs⟩
          · rw [hh1, hrw] at hr; simp at hr
          · rw [hs0 (I.domS hF hb)] at hr
            rw [hs]; exact X.mono b hb hr
        · rcases xg b with ⟨_, _, _, bk, hrw, hh1, _⟩ | ⟨_, hs0, hs⟩
          · rw [hh1, rw_alive hrw] at hr; simp at hr
          · rw [hs0 (I.domS hF hb)] at hr
            rw [hs]; exact X.dead b hb hr
      · intro b hb
        cases hE : E b with
        | some q => exact (I.dom b (by simp [hE])).imp id (fun ⟨i, h3, h4⟩ => ⟨i, by by_cases k : i = j; (rw [k]; exact addS_at S j); (rw [addS_ne S k]; exact h3), h4⟩)
        | none =>
          obtain ⟨l, hl⟩ : ∃ l, E' b = some l := Option.ne_none_iff_exists'.1 hb
          have := X.new b l hl hE
          exact .inr ⟨j, addS_at S j, this.1, this.2⟩
      · intro i b hi h3 h4
        by_cases e : i = j
        · rw [e] at h3 h4; exact X.all b h3 h4
        · rw [addS_ne S e] at hi
          have := I.all i b hi h3 h4
          obtain ⟨q, hq⟩ : ∃ q, E b = some q := Option.ne_none_iff_exists'.1 this
          rw [X.le b q hq]; simp
  · rename_i hw
    have hwant := wanted_sound hco T hw
    rw [if_neg (by simp [hwant])]
    simp only [Option.some.injEq, Prod.mk.injEq] at h
    obtain ⟨_, hval, hev⟩ := h
    refine hK E _ w (calm undef _ ?_ (.inl hev.symm) rfl (act_put_defers _ _ _))
    rw [← hval]; rfl
  · simp at h
end
end Go.Eng

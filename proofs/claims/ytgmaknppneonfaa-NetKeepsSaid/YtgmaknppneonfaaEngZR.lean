/- The engine: a function that reads blocks, and changes none, may be taken for what it answers. -/
import Derived.Test.YtgmaknppneonfaaEngZ
set_option linter.unusedSimpArgs false
set_option linter.unusedVariables false
namespace Go.Eng
variable {P : Program}
def scalBlk : ABlk → Bool
  | .cells l _ _ _ => AVal.scals l
  | _ => false
/-- The blocks of a list, by themselves. -/
def sub (H : AHeap) (bs : List Nat) : AHeap := ⟨bs.length, mkM (fun i => match bs[i]? with | some b => H.get b | none => .dead) bs.length⟩
theorem sub_n (H : AHeap) (bs : List Nat) : (sub H bs).n = bs.length := rfl
theorem sub_get (H : AHeap) (bs : List Nat) (i : Nat) : (sub H bs).get i = match bs[i]? with | some b => H.get b | none => .dead := by
  simp only [sub, AHeap.get, mkM_get]
  by_cases h : i < bs.length
  · simp [h]
  · have : bs[i]? = none := by simp; omega
    simp [h, this]
/-- A value, its blocks named by their places in the list. -/
def ren (bs : List Nat) : AVal → Option AVal
  | .sl b o n c => if b ∈ bs then some (.sl (bs.idxOf b) o n c) else none
  | .ptr b o => if b ∈ bs then some (.ptr (bs.idxOf b) o) else none
  | v => if v.scal then some v else none
def rens (bs : List Nat) : List AVal → Option (List AVal)
  | [] => some []
  | v :: l => (ren bs v).bind fun v => (rens bs l).map fun l => v :: l
def subE (E : Env) (bs : List Nat) : Env := fun i => (bs[i]?).bind E
theorem subE_idx {E : Env} {bs : List Nat} {b : Nat} (h : b ∈ bs) : subE E bs (bs.idxOf b) = E b := by
  have : bs[bs.idxOf b]? = some b := by
    rw [List.getElem?_eq_getElem (List.idxOf_lt_length_of_mem h)]; simp
  simp [subE, this]
theorem ren_cv {E : Env} {bs : List Nat} {v u : AVal} (h : ren bs v = some u) : cv (subE E bs) u = cv E v := by
  unfold ren at h
  split at h
  · split at h
    · rename_i b o n c hb
      simp only [Option.some.injEq] at h; subst h
      cases c <;> simp only [cv, subE_idx hb]
    · simp at h
  · split at h
    · rename_i b o hb
      simp only [Option.some.injEq] at h; subst h
      simp only [cv, subE_idx hb]
    · simp at h
  · split at h
    · rename_i hs
      simp only [Option.some.injEq] at h; subst h
      exact cv_scal _ _ _ hs
    · simp at h
theorem rens_cv {E : Env} {bs : List Nat} : ∀ {l m : List AVal}, rens bs l = some m → cvs (subE E bs) m = cvs E l
  | [], m, h => by simp only [rens, Option.some.injEq] at h; subst h; rfl
  | v :: l, m, h => by
    simp only [rens, Option.bind_eq_some_iff, Option.map_eq_some_iff] at h
    obtain ⟨u, hu, k, hk, rfl⟩ := h
    simp only [cvs, ren_cv hu, rens_cv hk]
theorem brel_scal {E F : Env} {l : Loc} {o : Option Obj} : ∀ {x : ABlk}, scalBlk x = true → BRel E l o x → BRel F l o x
  | .cells cs e es m, h, ⟨arr, fz, vs, h1, h2, h3⟩ => ⟨arr, fz, vs, h1, by rw [cvs_scal cs F E h]; exact h2, h3⟩
  | .dead, _, _ => trivial
  | .map _, h, _ => by simp [scalBlk] at h
/-- The contract of a function that reads. -/
def rspec (r : List AVal → AHeap → Option AVal) : List AVal → AHeap → Option (AVal × AHeap) := fun args H => (r args H).map fun v => (v, H)
theorem Sound.rspec {f : FuncId} {φ : List AVal → AHeap → Option (AVal × AHeap)} {r : List AVal → AHeap → Option AVal} (h : Sound P f φ)
    (k : ∀ args H v, r args H = some v → v.scal = true ∧ ∃ (bs : List Nat) (args' : List AVal) (H' : AHeap), bs.Nodup ∧ (∀ b ∈ bs, scalBlk (H.get b) = true) ∧ rens bs args = some args' ∧ φ args' (sub H bs) = some (v, H') ∧ ∀ i, i < bs.length → H'.get i = (sub H bs).get i) : Sound P f (rspec r) := by
  intro args H v H2 hψ
  simp only [Eng.rspec, Option.map_eq_some_iff, Prod.mk.injEq] at hψ
  obtain ⟨v', hr, rfl, rfl⟩ := hψ
  obtain ⟨hv, bs, args', H', hnd, hsc, hren, hφ, hsame⟩ := k args H v' hr
  obtain ⟨hc, hn, hw, hC⟩ := h args' (sub H bs) v' H' hφ
  refine ⟨hc, Nat.le_refl _, id, fun E w as hwf has R hF => ?_⟩
  have hidx : ∀ i l, subE E bs i = some l → ∃ b, bs[i]? = some b ∧ E b = some l := fun i l hi => by
    simp only [subE, Option.bind_eq_some_iff] at hi; exact hi
  have hget : ∀ i b, bs[i]? = some b → (sub H bs).get i = H.get b := fun i b hi => by rw [sub_get, hi]
  have hR : Rel (subE E bs) (sub H bs) w := by
    refine ⟨fun i l hi => ?_, fun i j l m hi hj he h1 h2 => ?_, fun i l hi => ?_⟩
    · obtain ⟨b, hb, hl⟩ := hidx i l hi
      rw [hget i b hb]
      exact brel_scal (hsc b (List.mem_of_getElem? hb)) (R.blk b l hl)
    · obtain ⟨b, hb, hl⟩ := hidx i l hi
      obtain ⟨c, hc, hm⟩ := hidx j m hj
      rw [hget i b hb] at h1
      rw [hget j c hc] at h2
      have := R.inj b c l m hl hm he h1 h2
      subst this
      have hi' : i < bs.length := by
        rcases Nat.lt_or_ge i bs.length with h | h
        · exact h
        · rw [List.getElem?_eq_none h] at hb; simp at hb
      have hj' : j < bs.length := by
        rcases Nat.lt_or_ge j bs.length with h | h
        · exact h
        · rw [List.getElem?_eq_none h] at hc; simp at hc
      have e1 : bs[i] = bs[j] := by
        rw [List.getElem?_eq_getElem hi', Option.some.injEq] at hb
        rw [List.getElem?_eq_getElem hj', Option.some.injEq] at hc
        rw [hb, hc]
      have hp := List.pairwise_iff_getElem.1 hnd
      rcases Nat.lt_trichotomy i j with h | h | h
      · exact absurd e1 (hp i j hi' hj' h)
      · exact h
      · exact absurd e1.symm (hp j i hj' hi' h)
    · obtain ⟨b, hb, hl⟩ := hidx i l hi
      exact R.lt b l hl
  have hwf' : (sub H bs).wf := fun i hi => by
    have : bs[i]? = none := by simp [sub_n] at hi ⊢; omega
    rw [sub_get, this]
  have := hC (subE E bs) w as hwf' (by rw [rens_cv hren]; exact has) hR (fun i h1 h2 => by
    have : bs[i]? = none := by simp [sub_n] at h1 ⊢; omega
    simp [subE, this])
  refine this.mono fun e w' ⟨E', x, he, hx, R', X⟩ => ?_
  have fr : ∀ c, c < w.heap.size → (∀ b l, E b = some l → l.blk = c → (H.get b).rw = false) → w'.heap[c]? = w.heap[c]? := fun c hc hrw =>
    X.frame c hc fun i l hi hl => by
      obtain ⟨b, hb, hlb⟩ := hidx i l hi
      rw [hget i b hb]; exact hrw b l hlb hl
  refine ⟨E, x, he, by rw [cv_scal v' E E' hv]; exact hx, ⟨fun b l hb => ?_, R.inj, fun b l hb => Nat.lt_of_lt_of_le (R.lt b l hb) X.size⟩, ⟨Env.le_refl E, fun b l h1 h2 => by simp [h1] at h2, fun b h1 h2 => by omega, Nat.le_refl _, X.size, X.os, X.tape, X.output, fr, fun b l h1 h2 => by simp [h1] at h2, fun b h1 h2 => h2, fun b h1 h2 => h2⟩⟩
  by_cases hm : b ∈ bs
  · have hi : bs[bs.idxOf b]? = some b := by
      rw [List.getElem?_eq_getElem (List.idxOf_lt_length_of_mem hm)]; simp
    have hE : E' (bs.idxOf b) = some l := X.le _ _ (by rw [subE_idx hm]; exact hb)
    have := R'.blk _ l hE
    rw [hsame _ (List.idxOf_lt_length_of_mem hm), hget _ b hi] at this
    exact brel_scal (hsc b hm) this
  · cases ha : (H.get b).alive with
    | false =>
      cases hg : H.get b with
      | dead => trivial
      | cells _ _ _ _ => rw [hg] at ha; simp [ABlk.alive] at ha
      | map _ => rw [hg] at ha; simp [ABlk.alive] at ha
    | true =>
      rw [X.frame l.blk (R.lt b l hb) fun i m hi hmb => by
        obtain ⟨c, hc, hmc⟩ := hidx i m hi
        rw [hget i c hc]
        cases hrw : (H.get c).rw with
        | false => rfl
        | true =>
          have := R.inj c b m l hmc hb hmb hrw ha
          subst this
          exact absurd (List.mem_of_getElem? hc) hm]
      exact R.blk b l hb
theorem iter_mono {f : ASt → Option (AEx × ASt)} : ∀ {n m : Nat} {s : ASt} {r : AEx × ASt}, iter f n s = some r → n ≤ m → iter f m s = some r
  | 0, m, s, r, h, _ => by simp [iter] at h
  | n + 1, 0, s, r, h, hm => by omega
  | n + 1, m + 1, s, r, h, hm => by
    simp only [iter, Option.bind_eq_some_iff, Prod.exists] at h ⊢
    obtain ⟨e, s', h1, h2⟩ := h
    refine ⟨e, s', h1, ?_⟩
    cases e with
    | normal => exact iter_mono h2 (by omega)
    | exit id => exact h2
    | ret => exact h2
theorem closed_ok {φ : List AVal → AHeap → Option (AVal × AHeap)} {args : List AVal} {H : AHeap} {v : AVal} (h : (φ args H).map (fun x => x.1) = some v) : ∃ H', φ args H = some (v, H') := by
  cases hx : φ args H with
  | none => rw [hx] at h; simp at h
  | some x =>
    rw [hx] at h
    simp only [Option.map_some, Option.some.injEq] at h
    exact ⟨x.2, by rw [← h]⟩
def rspecK (H : AHeap) (x : Option AVal) : Option (AVal × AHeap) := x.map fun v => (v, H)
theorem rspec_eq (r : List AVal → AHeap → Option AVal) (l : List AVal) (H : AHeap) : rspec r l H = rspecK H (r l H) := (rfl)
theorem rspecK_some (H : AHeap) (v : AVal) : rspecK H (some v) = some (v, H) := (rfl)
def iterK (r : Option (AEx × ASt)) (f : ASt → Option (AEx × ASt)) (n : Nat) : Option (AEx × ASt) := r.bind fun (e, s') => match e with
    | .normal => iter f n s'
    | e => some (e, s')
theorem iter_succ (f : ASt → Option (AEx × ASt)) (n : Nat) (s : ASt) : iter f (n + 1) s = iterK (f s) f n := (rfl)
theorem iterK_n (s : ASt) (f : ASt → Option (AEx × ASt)) (n : Nat) : iterK (some (.normal, s)) f n = iter f n s := (rfl)
theorem iterK_e (id : Nat) (s : ASt) (f : ASt → Option (AEx × ASt)) (n : Nat) : iterK (some (.exit id, s)) f n = some (.exit id, s) := (rfl)
theorem iterK_r (s : ASt) (f : ASt → Option (AEx × ASt)) (n : Nat) : iterK (some (.ret, s)) f n = some (.ret, s) := (rfl)
theorem iterK_ite (c : Prop) [Decidable c] (x y : Option (AEx × ASt)) (f : ASt → Option (AEx × ASt)) (n : Nat) : iterK (if c then x else y) f n = if c then iterK x f n else iterK y f n := by split <;> rfl
attribute [go_sem] rspec_eq rspecK_some iterK_n iterK_e iterK_r iterK_ite
end Go.Eng

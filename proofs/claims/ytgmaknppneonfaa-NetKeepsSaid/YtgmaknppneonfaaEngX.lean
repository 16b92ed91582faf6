/- The engine, twenty-fourth part: what a caller may take a function for; and the way from a world into the engine. -/
import Derived.Test.YtgmaknppneonfaaEngW
import Derived.Below
set_option linter.unusedSimpArgs false
set_option linter.unusedVariables false
namespace Go.Eng
variable {P : Program}

/-! ### Books of contracts -/
def updP (Φ : Phi) (f : FuncId) (ψ : List AVal → AHeap → Option (AVal × AHeap)) : Phi := fun g => if g = f then ψ else Φ g
theorem updP_ok {Φ : Phi} (h : ∀ g, Sound P g (Φ g)) {f : FuncId} {ψ : List AVal → AHeap → Option (AVal × AHeap)} (k : Sound P f ψ) : ∀ g, Sound P g (updP Φ f ψ g) := by
  intro g
  unfold updP
  by_cases e : g = f
  · rw [if_pos e, e]; exact k
  · rw [if_neg e]; exact h g
theorem updP_at (Φ : Phi) (f : FuncId) (ψ : List AVal → AHeap → Option (AVal × AHeap)) : updP Φ f ψ f = ψ := by simp [updP]
theorem updP_ne (Φ : Phi) {f g : FuncId} (ψ : List AVal → AHeap → Option (AVal × AHeap)) (h : g ≠ f) : updP Φ f ψ g = Φ g := by simp [updP, h]

/-! ### Garbage -/
def AHeap.bump (H : AHeap) (k : Nat) : AHeap := { H with n := H.n + k }
@[simp] theorem AHeap.get_bump (H : AHeap) (k b : Nat) : (H.bump k).get b = H.get b := rfl
@[simp] theorem AHeap.n_bump (H : AHeap) (k : Nat) : (H.bump k).n = H.n + k := rfl
structure Grew (H H' : AHeap) : Prop where
  n : H.n ≤ H'.n
  get : ∀ b, b < H.n ∨ H'.n ≤ b → H'.get b = H.get b
theorem Grew.refl (H : AHeap) : Grew H H := ⟨Nat.le_refl _, fun _ _ => rfl⟩
theorem Grew.trans {H I J : AHeap} (h : Grew H I) (k : Grew I J) : Grew H J :=
  ⟨Nat.le_trans h.n k.n, fun b hb => by
    have h1 := h.n; have h2 := k.n
    rw [k.get b (by omega), h.get b (by omega)]⟩
theorem Grew.push (H : AHeap) (x : ABlk) : Grew H (H.push x) := ⟨by simp, fun b hb => by
  rw [AHeap.get_push, if_neg]; simp at hb; omega⟩
theorem Grew.bump (H : AHeap) (k : Nat) : Grew H (H.bump k) := ⟨by simp, fun b hb => rfl⟩
theorem Grew.push' {H I : AHeap} (h : Grew H I) (x : ABlk) : Grew H (I.push x) := h.trans (Grew.push I x)
theorem Grew.bump' {H I : AHeap} (h : Grew H I) (k : Nat) : Grew H (I.bump k) := h.trans (Grew.bump I k)
/-- A write to a block that was made since. -/
theorem Grew.set' {H I : AHeap} (h : Grew H I) {b : Nat} (hb : H.n ≤ b) (hb' : b < I.n) (x : ABlk) : Grew H (I.set b x) :=
  ⟨by simpa using h.n, fun c hc => by
    rw [AHeap.get_set, if_neg (by simp at hc; omega)]
    exact h.get c (by simpa using hc)⟩

mutual
def AVal.scal : AVal → Bool
  | .bool _ | .int _ _ | .str _ | .nilp | .nils | .nilm | .nilfn | .nili | .raw _ => true
  | .agg l | .tup l => AVal.scals l
  | .iface _ v => AVal.scal v
  | _ => false
def AVal.scals : List AVal → Bool
  | [] => true
  | v :: l => AVal.scal v && AVal.scals l
end
/-- A function that leaves the heap as it was, but for garbage, may be taken for one that makes nothing. -/
theorem Sound.pure {f : FuncId} {φ ψ : List AVal → AHeap → Option (AVal × AHeap)} (h : Sound P f φ)
    (k : ∀ args H v H2, ψ args H = some (v, H2) → ∃ H', φ args H = some (v, H') ∧ Grew H H' ∧ H2 = H.bump (H'.n - H.n)) : Sound P f ψ := by
  intro args H v H2 hψ
  obtain ⟨H', hφ, G, rfl⟩ := k args H v H2 hψ
  obtain ⟨hc, hn, hw, hC⟩ := h args H v H' hφ
  have hnn : (H.bump (H'.n - H.n)).n = H'.n := by simp; omega
  refine ⟨hc, by simp, fun hwf b hb => hwf b (by simp at hb; omega), fun E w as hwf has R hF => ?_⟩
  refine (hC E w as hwf has R (by rw [hnn] at hF; exact hF)).mono fun e w' ⟨E', x, he, hx, R', X⟩ => ?_
  have old : ∀ b, E b ≠ none → H'.get b = H.get b := fun b hb => G.get b (by
    rcases Nat.lt_or_ge b H.n with h1 | h1
    · exact .inl h1
    · rcases Nat.lt_or_ge b H'.n with h2 | h2
      · exact absurd (hF b h1 (by rw [hnn]; exact h2)) hb
      · exact .inr h2)
  have get' : ∀ b l, E' b = some l → (H.bump (H'.n - H.n)).get b = H'.get b ∨ (H.bump (H'.n - H.n)).get b = .dead := by
    intro b l hb
    rw [AHeap.get_bump]
    by_cases he : E b = none
    · obtain ⟨h1, h2⟩ := X.new b l hb he
      exact .inr (hwf b h1)
    · exact .inl (old b he).symm
  refine ⟨E', x, he, hx, ⟨fun b l hb => ?_, fun b c l m hb hc' hbm h1 h2 => ?_, R'.lt⟩, ⟨X.le, fun b l h1 h2 => ?_, fun b h1 h2 => ?_, ?_, X.size, X.os, X.tape, X.output, X.frame, X.loc, fun b h1 h2 => ?_, fun b h1 h2 => ?_⟩⟩
  · rcases get' b l hb with h1 | h1
    · rw [h1]; exact R'.blk b l hb
    · rw [h1]; trivial
  · rcases get' b l hb with h3 | h3
    · rcases get' c m hc' with h4 | h4
      · rw [h3] at h1; rw [h4] at h2; exact R'.inj b c l m hb hc' hbm h1 h2
      · rw [h4] at h2; simp [ABlk.alive] at h2
    · rw [h3] at h1; simp [ABlk.rw] at h1
  · rw [hnn]; exact X.new b l h1 h2
  · rw [hnn] at h2; exact X.all b h1 h2
  · simp
  · exact h2
  · exact h2

mutual
theorem cv_scal : ∀ (v : AVal) (E F : Env), v.scal = true → cv E v = cv F v
  | .bool _, E, F, h => rfl
  | .int _ _, E, F, h => rfl
  | .str _, E, F, h => rfl
  | .nilp, E, F, h => rfl
  | .nils, E, F, h => rfl
  | .nilm, E, F, h => rfl
  | .nilfn, E, F, h => rfl
  | .nili, E, F, h => rfl
  | .agg l, E, F, h => by simp only [cv]; rw [cvs_scal l E F (by simpa [AVal.scal] using h)]
  | .tup l, E, F, h => by simp only [cv]; rw [cvs_scal l E F (by simpa [AVal.scal] using h)]
  | .iface _ v, E, F, h => by simp only [cv]; rw [cv_scal v E F (by simpa [AVal.scal] using h)]
  | .ptr _ _, E, F, h => by simp [AVal.scal] at h
  | .sl _ _ _ _, E, F, h => by simp [AVal.scal] at h
  | .etail _ _ _ _, E, F, h => by simp [AVal.scal] at h
  | .mp _, E, F, h => by simp [AVal.scal] at h
  | .fn _ _ _, E, F, h => by simp [AVal.scal] at h
  | .raw _, E, F, h => rfl
theorem cvs_scal : ∀ (l : List AVal) (E F : Env), AVal.scals l = true → cvs E l = cvs F l
  | [], E, F, h => rfl
  | v :: l, E, F, h => by
    simp only [AVal.scals, Bool.and_eq_true] at h
    simp only [cvs]; rw [cv_scal v E F h.1, cvs_scal l E F h.2]
end
def heap0 : AHeap := ⟨0, .nil⟩
theorem wf0 : heap0.wf := fun b _ => rfl
/-- The contract of a function of plain values that keeps nothing. -/
def pspec (r : List AVal → Option AVal) : List AVal → AHeap → Option (AVal × AHeap) := fun args H => (r args).map fun v => (v, H)
theorem Sound.pspec {f : FuncId} {φ : List AVal → AHeap → Option (AVal × AHeap)} {r : List AVal → Option AVal} (h : Sound P f φ)
    (k : ∀ args v, r args = some v → AVal.scals args = true ∧ v.scal = true ∧ ∃ H', φ args heap0 = some (v, H')) : Sound P f (pspec r) := by
  intro args H v H2 hψ
  simp only [Eng.pspec, Option.map_eq_some_iff, Prod.mk.injEq] at hψ
  obtain ⟨v', hr, rfl, rfl⟩ := hψ
  obtain ⟨ha, hv, H', hφ⟩ := k args v' hr
  obtain ⟨hc, hn, hw, hC⟩ := h args heap0 v' H' hφ
  refine ⟨hc, Nat.le_refl _, id, fun E w as hwf has R hF => ?_⟩
  have := hC (fun _ => none) w as wf0 (by rw [cvs_scal args _ E ha]; exact has) ⟨fun b l hb => by simp at hb, fun b c l k hb => by simp at hb, fun b l hb => by simp at hb⟩ (fun b _ _ => rfl)
  refine this.mono fun e w' ⟨E', x, he, hx, R', X⟩ => ?_
  have fr : ∀ c, c < w.heap.size → w'.heap[c]? = w.heap[c]? := fun c hc => X.frame c hc fun b l hb => by simp at hb
  refine ⟨E, x, he, by rw [cv_scal v' E E' hv]; exact hx, ⟨fun b l hb => ?_, R.inj, fun b l hb => Nat.lt_of_lt_of_le (R.lt b l hb) X.size⟩, ⟨Env.le_refl E, fun b l h1 h2 => by simp [h1] at h2, fun b h1 h2 => by omega, Nat.le_refl _, X.size, X.os, X.tape, X.output, fun c hc _ => fr c hc, fun b l h1 h2 => by simp [h1] at h2, fun b h1 h2 => h2, fun b h1 h2 => h2⟩⟩
  rw [fr l.blk (R.lt b l hb)]; exact R.blk b l hb
/-- How many blocks a call made. -/
def kc (φ : List AVal → AHeap → Option (AVal × AHeap)) (args : List AVal) (H : AHeap) : Nat := match φ args H with
  | some (_, H') => H'.n - H.n
  | none => 0
theorem kc_eq {φ : List AVal → AHeap → Option (AVal × AHeap)} {args : List AVal} {H H' : AHeap} {v : AVal} (h : φ args H = some (v, H')) : kc φ args H = H'.n - H.n := by
  simp [kc, h]
/-- The contract of a function that leaves nothing but garbage: what it answers, at which arguments. -/
def spec (φ : List AVal → AHeap → Option (AVal × AHeap)) (r : List AVal → AHeap → Option AVal) : List AVal → AHeap → Option (AVal × AHeap) :=
  fun args H => (r args H).map fun v => (v, H.bump (kc φ args H))
theorem Sound.spec {f : FuncId} {φ : List AVal → AHeap → Option (AVal × AHeap)} {r : List AVal → AHeap → Option AVal} (h : Sound P f φ)
    (k : ∀ args H v, r args H = some v → ∃ H', φ args H = some (v, H') ∧ Grew H H') : Sound P f (spec φ r) := by
  refine h.pure fun args H v H2 hψ => ?_
  simp only [Eng.spec, Option.map_eq_some_iff, Prod.mk.injEq] at hψ
  obtain ⟨v', hr, rfl, rfl⟩ := hψ
  obtain ⟨H', h1, h2⟩ := k args H v' hr
  exact ⟨H', h1, h2, by rw [kc_eq h1]⟩

/-! ### A world, as the engine sees it: nothing may be written -/
def av (n : Nat) : Value → AVal
  | .bool b => .bool b
  | .int k i => .int k i
  | .string s => .str s.data.toList
  | .pointer none => .nilp
  | .pointer (some ⟨b, o, none⟩) => if b < n then .ptr b o else .raw (.pointer (some ⟨b, o, none⟩))
  | .slice none 0 0 => .nils
  | .slice (some ⟨b, o, none⟩) l c => if b < n then .sl b o l (some c) else .raw (.slice (some ⟨b, o, none⟩) l c)
  | v => .raw v
/-- The same of what lies in a block: what points is left as it is. -/
def av0 : Value → AVal
  | .bool b => .bool b
  | .int k i => .int k i
  | .string s => .str s.data.toList
  | v => .raw v
theorem cv_av0 (E : Env) (v : Value) : cv E (av0 v) = some v := by
  unfold av0; split <;> rfl
theorem cvs_av0 (E : Env) : ∀ (l : List Value), cvs E (l.map av0) = some l
  | [] => rfl
  | v :: l => by simp [cvs, cv_av0, cvs_av0 E l]
theorem scal_av0 (v : Value) : (av0 v).scal = true := by
  unfold av0; split <;> rfl
theorem scals_av0 : ∀ (l : List Value), AVal.scals (l.map av0) = true
  | [] => rfl
  | v :: l => by simp [AVal.scals, scal_av0, scals_av0 l]
def avv (n : Nat) : Value → AVal
  | .agg l => .agg (l.toList.map (av n))
  | v => av n v
def envOf (w : World) : Env := fun b => if b < w.heap.size then some ⟨b, (match w.heap[b]? with | some (.cells arr _ _) => arr.size | _ => 0), 1⟩ else none
def blkOf (w : World) (b : Nat) : ABlk := match w.heap[b]? with
  | some (.cells arr e _) => .cells (arr.toList.map av0) e 1 .ro
  | _ => .dead
def mkM (blk : Nat → ABlk) : Nat → PM ABlk
  | 0 => .nil
  | n + 1 => (mkM blk n).set n (blk n)
theorem mkM_get (blk : Nat → ABlk) : ∀ (n b : Nat), (mkM blk n).get b = if b < n then some (blk b) else none
  | 0, b => by simp [mkM, PM.get]
  | n + 1, b => by
    rw [mkM, PM.get_set, mkM_get blk n b]
    by_cases h : b = n
    · subst h; simp
    · rw [if_neg h]
      by_cases h2 : b < n
      · rw [if_pos h2, if_pos (by omega)]
      · rw [if_neg h2, if_neg (by omega)]
def heapOf (w : World) : AHeap := ⟨w.heap.size, mkM (blkOf w) w.heap.size⟩
theorem heapOf_get (w : World) (b : Nat) : (heapOf w).get b = blkOf w b := by
  simp only [heapOf, AHeap.get, mkM_get]
  by_cases h : b < w.heap.size
  · simp [h]
  · have : w.heap[b]? = none := by simp; omega
    simp [h, blkOf, this]
theorem heapOf_n (w : World) : (heapOf w).n = w.heap.size := rfl
theorem cv_av (w : World) (v : Value) : cv (envOf w) (av w.heap.size v) = some v := by
  unfold av
  split
  all_goals first
    | rfl
    | (split
       · rename_i h; simp [cv, envOf, h]
       · rfl)
theorem cvs_av (w : World) : ∀ (l : List Value), cvs (envOf w) (l.map (av w.heap.size)) = some l
  | [] => rfl
  | v :: l => by simp [cvs, cv_av, cvs_av w l]
theorem cv_avv (w : World) (v : Value) : cv (envOf w) (avv w.heap.size v) = some v := by
  unfold avv
  split
  · simp [cv, cvs_av]
  · exact cv_av w v
theorem cvs_avv (w : World) : ∀ (l : List Value), cvs (envOf w) (l.map (avv w.heap.size)) = some l
  | [] => rfl
  | v :: l => by simp [cvs, cv_avv, cvs_avv w l]
theorem blkOf_rw (w : World) (b : Nat) : (blkOf w b).rw = false := by unfold blkOf; split <;> rfl
theorem rel_of (w : World) : Rel (envOf w) (heapOf w) w := by
  refine ⟨fun b l hb => ?_, fun b c l k hb hc he h1 h2 => ?_, fun b l hb => ?_⟩
  · simp only [envOf] at hb
    split at hb
    · rename_i hlt
      simp only [Option.some.injEq] at hb; subst hb
      rw [heapOf_get]
      unfold blkOf
      split
      · rename_i arr e fz ho
        exact ⟨arr, fz, arr.toList, ho, cvs_av0 _ _, by simp [ho], rfl, ⟨[], by simp, fun _ => rfl⟩, fun h => absurd rfl h, fun h => by simp at h⟩
      · trivial
    · simp at hb
  · rw [heapOf_get, blkOf_rw] at h1; simp at h1
  · simp only [envOf] at hb
    split at hb
    · rename_i hlt
      simp only [Option.some.injEq] at hb; subst hb; exact hlt
    · simp at hb
theorem wf_of (w : World) : (heapOf w).wf := by
  intro b hb
  rw [heapOf_get, blkOf]
  have : w.heap[b]? = none := by simp [heapOf_n] at hb ⊢; omega
  rw [this]
theorem fresh_of (w : World) (n : Nat) : Fresh (envOf w) (heapOf w).n n := by
  intro b h1 h2
  simp only [heapOf_n] at h1
  simp [envOf, Nat.not_lt.2 h1]
/-- A law that answers true, from any world. -/
theorem law_calls {f : FuncId} {φ : List AVal → AHeap → Option (AVal × AHeap)} (h : Sound P f φ) (W : World) (args : Array Value) (v : AVal) {x : Value} (hx : ∀ E, cv E v = some x)
    (k : ∃ H', φ (args.toList.map (avv W.heap.size)) (heapOf W) = some (v, H')) : Calls P f args W fun e W' => e = .returned x ∧ RowKit.Below W.heap.size W W' := by
  obtain ⟨H', hφ⟩ := k
  obtain ⟨hc, hn, hw, hC⟩ := h _ _ _ _ hφ
  have := hC (envOf W) W args.toList (wf_of W) (cvs_avv W _) (rel_of W) (fresh_of W _)
  rw [Array.toArray_toList] at this
  refine this.mono fun e w' ⟨E', y, he, hy, R', X⟩ => ?_
  rw [hx E', Option.some.injEq] at hy
  subst hy
  exact ⟨he, X.os, X.tape, X.output, X.size, fun c hc => X.frame c hc fun b l hb hl => by rw [heapOf_get]; exact blkOf_rw W b⟩
end Go.Eng

/- Layer 16: LeaseOne, its inner loops. -/
import Derived.Test.YtakblaaipaehjaaSaU
set_option linter.unusedSimpArgs false
set_option linter.unusedVariables false
set_option maxHeartbeats 40000000
namespace Go.Eng.SeatA
open Go.Proofs
theorem p8_21 (l : List AVal) (H : AHeap) : Φ8 21 l H = pspec r21 l H := (rfl)
def Ent.cs (e : Ent) : List AVal := [.int .i64 e.node, .int .i64 e.to, .int .i64 e.stamp, .bool e.given]
/-- The leases that were asked for, as they lie in memory. -/
def flat : List Ent → List AVal
  | [] => []
  | e :: es => .int .i64 e.node :: .int .i64 e.to :: .int .i64 e.stamp :: .bool e.given :: flat es
theorem flat_len : ∀ (es : List Ent), (flat es).length = es.length * 4
  | [] => rfl
  | e :: es => by simp only [flat, List.length_cons, flat_len es]; omega
theorem flat_app : ∀ (a b : List Ent), flat (a ++ b) = flat a ++ flat b
  | [], b => rfl
  | e :: a, b => by simp [flat, flat_app a b]
theorem flat_at : ∀ (es : List Ent) (k : Nat) (hk : k < es.length), (flat es)[k * 4]? = some (.int .i64 es[k].node) ∧ (flat es)[k * 4 + 1]? = some (.int .i64 es[k].to) ∧ (flat es)[k * 4 + 2]? = some (.int .i64 es[k].stamp) ∧ (flat es)[k * 4 + 3]? = some (.bool es[k].given)
  | [], k, hk => by simp at hk
  | e :: es, 0, hk => ⟨rfl, rfl, rfl, rfl⟩
  | e :: es, k + 1, hk => by
    have := flat_at es k (by simpa using hk)
    rw [show (k + 1) * 4 = k * 4 + 1 + 1 + 1 + 1 by omega]
    simpa [flat, Nat.add_right_comm] using this
theorem flat_take : ∀ (es : List Ent) (k : Nat) (hk : k < es.length), ((flat es).drop (k * 4)).take 4 = es[k].cs
  | [], k, hk => by simp at hk
  | e :: es, 0, hk => by simp [flat, Ent.cs]
  | e :: es, k + 1, hk => by
    have := flat_take es k (by simpa using hk)
    rw [show (k + 1) * 4 = k * 4 + 1 + 1 + 1 + 1 by omega]
    simpa [flat] using this
theorem flat_set3 : ∀ (es : List Ent) (k : Nat) (hk : k < es.length) (b : Bool), (flat es).take (k * 4 + 3) ++ .bool b :: (flat es).drop (k * 4 + 3 + 1) = flat (es.set k { es[k] with given := b })
  | [], k, hk, b => by simp at hk
  | e :: es, 0, hk, b => by simp [flat]
  | e :: es, k + 1, hk, b => by
    have := flat_set3 es k (by simpa using hk) b
    rw [show (k + 1) * 4 + 3 = k * 4 + 3 + 1 + 1 + 1 + 1 by omega]
    simpa [flat] using this
theorem flat_set2 : ∀ (es : List Ent) (k : Nat) (hk : k < es.length) (n : Int), (flat es).take (k * 4 + 2) ++ .int .i64 n :: (flat es).drop (k * 4 + 2 + 1) = flat (es.set k { es[k] with stamp := n })
  | [], k, hk, b => by simp at hk
  | e :: es, 0, hk, b => by simp [flat]
  | e :: es, k + 1, hk, b => by
    have := flat_set2 es k (by simpa using hk) b
    rw [show (k + 1) * 4 + 2 = k * 4 + 2 + 1 + 1 + 1 + 1 by omega]
    simpa [flat] using this
abbrev tmH (l : AVal) (A P q N : Nat) (i : Int) (hv k : Nat) : Tm := [(1, l), (2, .ptr A 0), (5, .bool true), (7, .ptr P 0), (8, .sl q 0 N none), (9, .int .i64 i), (17, .ptr hv 0), (18, .int .i64 k)]
/-- Whether a lease is a valid one. -/
def live (a0 a1 : Int) (e : Ent) : Bool := e.given && validL e.stamp (if e.node = 0 then a0 else a1)
theorem stepH {H : AHeap} {l : AVal} {A P q N hv k : Nat} {i a0 a1 a2 : Int} {es : List Ent} {h0 h1 : Bool} (hA : H.get A = .cells [.int .i64 a0, .int .i64 a1, .int .i64 a2] 37 3 .fixed) (hQ : H.get q = .cells (flat es) 44 4 .elastic) (hH : H.get hv = .cells [.bool h0, .bool h1] 45 2 .fixed)
    (lA : A < H.n) (lq : q < H.n) (lh : hv < H.n) (hN : es.length = N) (hk : k < es.length) (hn : N ≤ 120) (hnd : es[k].node = 0 ∨ es[k].node = 1) :
    aden Φ8 b8_0 ⟨tmH l A P q N i hv k, H, []⟩ = some (.normal, ⟨tmH l A P q N i hv (k + 1), if live a0 a1 es[k] = true then H.set hv (.cells [.bool (h0 || decide (es[k].node = 0)), .bool (h1 || decide (es[k].node = 1))] 45 2 .fixed) else H, []⟩) := by
  obtain ⟨x0, x1, x2, x3⟩ := flat_at es k hk
  have hkN : k < N := by omega
  have hw : IntKind.i64.wrap ((k : Int) + 1) = ((k : Int) + 1) := by rw [IntKind.wrap_i64]; omega
  have h1' : (k : Int) < (N : Int) := by omega
  unfold b8_0 tmH
  cases hg : es[k].given with
  | false =>
    rw [hg] at x3
    simp (maxSteps := 10000000) +contextual [go_sem, hA, hQ, hH, lA, lq, lh, hkN, h1', x0, x1, x2, x3, hw, live, hg]
  | true =>
    rw [hg] at x3
    rcases hnd with nd | nd
    · rw [nd] at x0
      cases hv' : validL es[k].stamp a0 with
      | false => simp (maxSteps := 10000000) +contextual [go_sem, hA, hQ, hH, lA, lq, lh, hkN, h1', x0, x1, x2, x3, hw, live, hg, nd, hv', p8_15, r15]
      | true => simp (maxSteps := 10000000) +contextual [go_sem, hA, hQ, hH, lA, lq, lh, hkN, h1', x0, x1, x2, x3, hw, live, hg, nd, hv', p8_15, r15]
    · rw [nd] at x0
      cases hv' : validL es[k].stamp a1 with
      | false => simp (maxSteps := 10000000) +contextual [go_sem, hA, hQ, hH, lA, lq, lh, hkN, h1', x0, x1, x2, x3, hw, live, hg, nd, hv', p8_15, r15]
      | true => simp (maxSteps := 10000000) +contextual [go_sem, hA, hQ, hH, lA, lq, lh, hkN, h1', x0, x1, x2, x3, hw, live, hg, nd, hv', p8_15, r15]
abbrev tmZ (l : AVal) (A P q N : Nat) (i : Int) (d j : Nat) : Tm := [(1, l), (2, .ptr A 0), (5, .bool true), (7, .ptr P 0), (8, .sl q 0 N none), (9, .int .i64 i), (14, .ptr d 0), (15, .int .i64 j)]
theorem stepZ {H : AHeap} {l : AVal} {A P q N d k : Nat} {i : Int} {es : List Ent} {a : Ent} (hQ : H.get q = .cells (flat es) 44 4 .elastic) (hD : H.get d = .cells a.cs 44 4 .fixed)
    (lq : q < H.n) (ld : d < H.n) (hN : es.length = N) (hk : k < es.length) (hn : N ≤ 120) :
    aden Φ8 b8_2 ⟨tmZ l A P q N i d k, H, []⟩ = some (.normal, ⟨tmZ l A P q N i d (k + 1), if es[k].node = a.to then H.set q (.cells (flat (es.set k (zap a.to es[k]))) 44 4 .elastic) else H, []⟩) := by
  obtain ⟨x0, x1, x2, x3⟩ := flat_at es k hk
  have hkN : k < N := by omega
  have hw : IntKind.i64.wrap ((k : Int) + 1) = ((k : Int) + 1) := by rw [IntKind.wrap_i64]; omega
  have h1' : (k : Int) < (N : Int) := by omega
  have hL := flat_len es
  have hs := flat_set2 es k hk (-1)
  have hle : k * 4 + 2 + 1 ≤ es.length * 4 := by omega
  unfold Ent.cs at hD
  unfold b8_2 tmZ
  by_cases hz : es[k].node = a.to
  · have ez : zap a.to es[k] = { es[k] with stamp := -1 } := by unfold zap; rw [if_pos hz]
    rw [ez, ← hs]
    rw [hz] at x0
    simp (maxSteps := 10000000) +contextual [go_sem, hQ, hD, lq, ld, hkN, h1', x0, x1, x2, x3, hw, hz, hL, hle]
  · simp (maxSteps := 10000000) +contextual [go_sem, hQ, hD, lq, ld, hkN, h1', x0, x1, x2, x3, hw, hz]
theorem lastH {H : AHeap} {l : AVal} {A P q N hv : Nat} {i : Int} :
    aden Φ8 b8_0 ⟨tmH l A P q N i hv N, H, []⟩ = some (.exit 9, ⟨[(1, l), (2, .ptr A 0), (5, .bool true), (7, .ptr P 0), (8, .sl q 0 N none), (9, .int .i64 i), (17, .ptr hv 0), (18, .int .i64 N), (195, .bool false)], H, []⟩) := by
  unfold b8_0 tmH
  simp (maxSteps := 10000000) +contextual [go_sem]
theorem loopH {l : AVal} {A P q N hv : Nat} {i a0 a1 a2 : Int} {es : List Ent} (hvA : hv ≠ A) (hvq : hv ≠ q) (hN : es.length = N) (hn : N ≤ 120) (hnd : ∀ e ∈ es, e.node = 0 ∨ e.node = 1) :
    ∀ (j k : Nat), k + j = N → ∀ {H : AHeap} {h0 h1 : Bool}, H.get A = .cells [.int .i64 a0, .int .i64 a1, .int .i64 a2] 37 3 .fixed → H.get q = .cells (flat es) 44 4 .elastic → H.get hv = .cells [.bool h0, .bool h1] 45 2 .fixed → A < H.n → q < H.n → hv < H.n →
      (h0 = true → ∃ e ∈ es, e.node = 0 ∧ live a0 a1 e = true) → (h1 = true → ∃ e ∈ es, e.node = 1 ∧ live a0 a1 e = true) →
      ∃ H' h0' h1', H'.n = H.n ∧ (∀ z, z ≠ hv → H'.get z = H.get z) ∧ H'.get hv = .cells [.bool h0', .bool h1'] 45 2 .fixed ∧ (h0' = true → ∃ e ∈ es, e.node = 0 ∧ live a0 a1 e = true) ∧ (h1' = true → ∃ e ∈ es, e.node = 1 ∧ live a0 a1 e = true) ∧
        iter (aden Φ8 b8_0) (j + 1) ⟨tmH l A P q N i hv k, H, []⟩ = some (.exit 9, ⟨[(1, l), (2, .ptr A 0), (5, .bool true), (7, .ptr P 0), (8, .sl q 0 N none), (9, .int .i64 i), (17, .ptr hv 0), (18, .int .i64 N), (195, .bool false)], H', []⟩) := by
  intro j
  induction j with
  | zero =>
    intro k hk H h0 h1 hA hQ hH lA lq lh p0 p1
    have hk' : k = N := by omega
    subst hk'
    exact ⟨H, h0, h1, rfl, fun _ _ => rfl, hH, p0, p1, by rw [iter_succ, lastH]; rfl⟩
  | succ j ih =>
    intro k hk H h0 h1 hA hQ hH lA lq lh p0 p1
    have hkl : k < es.length := by omega
    have hs := stepH (l := l) (P := P) (i := i) hA hQ hH lA lq lh hN hkl hn (hnd _ (List.getElem_mem hkl))
    rw [iter_succ, hs, iterK_n]
    cases hlv : live a0 a1 es[k] with
    | false =>
      rw [if_neg (by simp)]
      exact ih (k + 1) (by omega) hA hQ hH lA lq lh p0 p1
    | true =>
      rw [if_pos rfl]
      obtain ⟨H', h0', h1', g1, g2, g3, g4, g5, g6⟩ := ih (k + 1) (by omega) (H := H.set hv (.cells [.bool (h0 || decide (es[k].node = 0)), .bool (h1 || decide (es[k].node = 1))] 45 2 .fixed)) (by rw [AHeap.get_set, if_neg (Ne.symm hvA)]; exact hA) (by rw [AHeap.get_set, if_neg (Ne.symm hvq)]; exact hQ) (by rw [AHeap.get_set, if_pos rfl]) lA lq lh
        (fun h => by
          rw [Bool.or_eq_true] at h
          rcases h with h | h
          · exact p0 h
          · exact ⟨_, List.getElem_mem hkl, by simpa using h, hlv⟩)
        (fun h => by
          rw [Bool.or_eq_true] at h
          rcases h with h | h
          · exact p1 h
          · exact ⟨_, List.getElem_mem hkl, by simpa using h, hlv⟩)
      exact ⟨H', h0', h1', g1, fun z hz => (g2 z hz).trans (by rw [AHeap.get_set, if_neg hz]), g3, g4, g5, g6⟩
theorem lastZ {H : AHeap} {l : AVal} {A P q N d : Nat} {i : Int} :
    aden Φ8 b8_2 ⟨tmZ l A P q N i d N, H, []⟩ = some (.exit 7, ⟨[(1, l), (2, .ptr A 0), (5, .bool true), (7, .ptr P 0), (8, .sl q 0 N none), (9, .int .i64 i), (14, .ptr d 0), (15, .int .i64 N), (176, .bool false)], H, []⟩) := by
  unfold b8_2 tmZ
  simp (maxSteps := 10000000) +contextual [go_sem]
theorem zap_zap (to : Int) (e : Ent) : zap to (zap to e) = zap to e := by
  unfold zap
  by_cases h : e.node = to
  · simp [h]
  · simp [h]
theorem loopZ {l : AVal} {A P q N d : Nat} {i : Int} {es : List Ent} {a : Ent} (dq : d ≠ q) (hn : N ≤ 120) :
    ∀ (j k : Nat), k + j = N → ∀ {H : AHeap} {cs : List Ent}, H.get q = .cells (flat cs) 44 4 .elastic → H.get d = .cells a.cs 44 4 .fixed → q < H.n → d < H.n → cs.length = N → es.length = N →
      (∀ x (h : x < N), x < k → cs[x]? = (es[x]?).map (zap a.to)) → (∀ x, k ≤ x → cs[x]? = es[x]?) →
      ∃ H', H'.n = H.n ∧ (∀ z, z ≠ q → H'.get z = H.get z) ∧ H'.get q = .cells (flat (es.map (zap a.to))) 44 4 .elastic ∧
        iter (aden Φ8 b8_2) (j + 1) ⟨tmZ l A P q N i d k, H, []⟩ = some (.exit 7, ⟨[(1, l), (2, .ptr A 0), (5, .bool true), (7, .ptr P 0), (8, .sl q 0 N none), (9, .int .i64 i), (14, .ptr d 0), (15, .int .i64 N), (176, .bool false)], H', []⟩) := by
  intro j
  induction j with
  | zero =>
    intro k hk H cs hQ hD lq ld hc he p1 p2
    have hk' : k = N := by omega
    subst hk'
    have e : cs = es.map (zap a.to) := by
      apply List.ext_getElem?
      intro x
      rw [List.getElem?_map]
      rcases Nat.lt_or_ge x k with h | h
      · exact p1 x h h
      · rw [List.getElem?_eq_none (by omega), List.getElem?_eq_none (by omega)]; rfl
    exact ⟨H, rfl, fun _ _ => rfl, by rw [← e]; exact hQ, by rw [iter_succ, lastZ]; rfl⟩
  | succ j ih =>
    intro k hk H cs hQ hD lq ld hc he p1 p2
    have hkl : k < cs.length := by omega
    have hke : k < es.length := by omega
    have hs := stepZ (l := l) (A := A) (P := P) (i := i) hQ hD lq ld hc hkl hn
    have ek : cs[k] = es[k] := by
      have := p2 k (Nat.le_refl _)
      rw [List.getElem?_eq_getElem hkl, List.getElem?_eq_getElem hke] at this
      exact Option.some.inj this
    rw [iter_succ, hs, iterK_n]
    by_cases hz : cs[k].node = a.to
    · rw [if_pos hz]
      obtain ⟨H', g1, g2, g3, g4⟩ := ih (k + 1) (by omega) (H := H.set q (.cells (flat (cs.set k (zap a.to cs[k]))) 44 4 .elastic)) (cs := cs.set k (zap a.to cs[k])) (by rw [AHeap.get_set, if_pos rfl]) (by rw [AHeap.get_set, if_neg dq]; exact hD) lq ld (by simp [hc]) he
        (fun x hx hxk => by
          by_cases e : x = k
          · subst e
            rw [List.getElem?_set_self hkl, List.getElem?_eq_getElem hke, ek]; rfl
          · rw [List.getElem?_set_ne (Ne.symm e)]
            exact p1 x hx (by omega))
        (fun x hx => by rw [List.getElem?_set_ne (by omega)]; exact p2 x (by omega))
      exact ⟨H', g1, fun z hz => (g2 z hz).trans (by rw [AHeap.get_set, if_neg hz]), g3, g4⟩
    · rw [if_neg hz]
      refine ih (k + 1) (by omega) hQ hD lq ld hc he (fun x hx hxk => ?_) (fun x hx => p2 x (by omega))
      by_cases e : x = k
      · subst e
        rw [List.getElem?_eq_getElem hkl, List.getElem?_eq_getElem hke, ← ek]
        unfold zap; rw [Option.map_some, if_neg hz]
      · exact p1 x hx (by omega)
abbrev tmT (l all : AVal) (A P x : Nat) (i : Int) (k : Int) : Tm := [(1, l), (2, .ptr A 0), (5, .bool true), (7, .ptr P 0), (8, all), (9, .int .i64 i), (10, .ptr x 0), (16, .int .i64 k)]
theorem tick8 {H : AHeap} {l all : AVal} {A P x : Nat} {i a0 a1 a2 b0 b1 b2 k0 k1 k2 k3 : Int} (hA : H.get A = .cells [.int .i64 a0, .int .i64 a1, .int .i64 a2] 37 3 .fixed) (hX : H.get x = .cells [.int .i64 k0, .int .i64 k1, .int .i64 k2, .int .i64 k3, .int .i64 b0, .int .i64 b1, .int .i64 b2] 42 7 .fixed) (xA : x ≠ A) (lA : A < H.n) (lx : x < H.n)
    (w0 : IntKind.i64.wrap (a0 + b0) = a0 + b0) (w1 : IntKind.i64.wrap (a1 + b1) = a1 + b1) (w2 : IntKind.i64.wrap (a2 + b2) = a2 + b2) :
    ∃ H', H'.n = H.n ∧ (∀ z, z ≠ A → H'.get z = H.get z) ∧ H'.get A = .cells [.int .i64 (a0 + b0), .int .i64 (a1 + b1), .int .i64 (a2 + b2)] 37 3 .fixed ∧
      iter (aden Φ8 b8_1) 4 ⟨tmT l all A P x i 0, H, []⟩ = some (.exit 5, ⟨[(1, l), (2, .ptr A 0), (5, .bool true), (7, .ptr P 0), (8, all), (9, .int .i64 i), (10, .ptr x 0), (16, .int .i64 3), (79, .bool false)], H', []⟩) := by
  have e0 : aden Φ8 b8_1 ⟨tmT l all A P x i 0, H, []⟩ = some (.normal, ⟨tmT l all A P x i 1, H.set A (.cells [.int .i64 (a0 + b0), .int .i64 a1, .int .i64 a2] 37 3 .fixed), []⟩) := by
    unfold b8_1 tmT
    simp (maxSteps := 10000000) +contextual [go_sem, hA, hX, lA, lx, w0, IntKind.wrap_i64]
  have g1 : ∀ c : ABlk, ∀ G : AHeap, (G.set A c).get x = G.get x := fun c G => by rw [AHeap.get_set, if_neg xA]
  have e1 : aden Φ8 b8_1 ⟨tmT l all A P x i 1, H.set A (.cells [.int .i64 (a0 + b0), .int .i64 a1, .int .i64 a2] 37 3 .fixed), []⟩ = some (.normal, ⟨tmT l all A P x i 2, (H.set A (.cells [.int .i64 (a0 + b0), .int .i64 a1, .int .i64 a2] 37 3 .fixed)).set A (.cells [.int .i64 (a0 + b0), .int .i64 (a1 + b1), .int .i64 a2] 37 3 .fixed), []⟩) := by
    unfold b8_1 tmT
    simp (maxSteps := 10000000) +contextual [go_sem, hX, lA, lx, xA, w1, IntKind.wrap_i64]
  have e2 : aden Φ8 b8_1 ⟨tmT l all A P x i 2, (H.set A (.cells [.int .i64 (a0 + b0), .int .i64 a1, .int .i64 a2] 37 3 .fixed)).set A (.cells [.int .i64 (a0 + b0), .int .i64 (a1 + b1), .int .i64 a2] 37 3 .fixed), []⟩ = some (.normal, ⟨tmT l all A P x i 3, ((H.set A (.cells [.int .i64 (a0 + b0), .int .i64 a1, .int .i64 a2] 37 3 .fixed)).set A (.cells [.int .i64 (a0 + b0), .int .i64 (a1 + b1), .int .i64 a2] 37 3 .fixed)).set A (.cells [.int .i64 (a0 + b0), .int .i64 (a1 + b1), .int .i64 (a2 + b2)] 37 3 .fixed), []⟩) := by
    unfold b8_1 tmT
    simp (maxSteps := 10000000) +contextual [go_sem, hX, lA, lx, xA, w2, IntKind.wrap_i64]
  have e3 : ∀ G, aden Φ8 b8_1 ⟨tmT l all A P x i 3, G, []⟩ = some (.exit 5, ⟨[(1, l), (2, .ptr A 0), (5, .bool true), (7, .ptr P 0), (8, all), (9, .int .i64 i), (10, .ptr x 0), (16, .int .i64 3), (79, .bool false)], G, []⟩) := by
    intro G
    unfold b8_1 tmT
    simp (maxSteps := 10000000) +contextual [go_sem]
  refine ⟨((H.set A (.cells [.int .i64 (a0 + b0), .int .i64 a1, .int .i64 a2] 37 3 .fixed)).set A (.cells [.int .i64 (a0 + b0), .int .i64 (a1 + b1), .int .i64 a2] 37 3 .fixed)).set A (.cells [.int .i64 (a0 + b0), .int .i64 (a1 + b1), .int .i64 (a2 + b2)] 37 3 .fixed), rfl, fun z hz => by rw [AHeap.get_set, if_neg hz, AHeap.get_set, if_neg hz, AHeap.get_set, if_neg hz], by rw [AHeap.get_set, if_pos rfl], ?_⟩
  rw [show (4 : Nat) = 0 + 1 + 1 + 1 + 1 from rfl, iter_succ, e0, iterK_n, iter_succ, e1, iterK_n, iter_succ, e2, iterK_n, iter_succ, e3, iterK_e]
end Go.Eng.SeatA

/- Layer 19: ElectOne. -/
import Derived.Test.YtoiceofneelphaaSbOC
set_option linter.unusedSimpArgs false
set_option linter.unusedVariables false
set_option maxHeartbeats 40000000
namespace Go.Eng.SeatB
open Go.Proofs
theorem lastE {H : AHeap} {b o n qr qh : Nat} {c : Option Nat} {node term stamp now v nw k : Int} :
    aden Φ11 b8_0 ⟨tmE node term stamp b o n c now qr qh v nw k n, H, []⟩ = some (.exit 2, ⟨[(0, .int .i64 node), (1, .int .i64 term), (2, .int .i64 stamp), (3, .sl b o n c), (4, .int .i64 now), (11, .bool true), (12, .ptr qr 0), (14, .ptr qh 0), (16, .int .i64 v), (17, .int .i64 nw), (18, .int .i64 k), (19, .int .i64 n), (87, .bool false)], H, []⟩) := by
  unfold b8_0 tmE
  simp (maxSteps := 10000000) +contextual [go_sem]
theorem loopE {b o n : Nat} {c : Option Nat} {f : Nat → Msg} {qr qh : Nat} {node term stamp now k : Int} {nl : Bool} (hn : n ≤ 60) (ht : inL term = true) (hl : nl = true → ∀ i, i < n → laterm node term now (f i) = false) :
    ∀ (j i : Nat), i + j = n → ∀ {H : AHeap} {first s0 s1 s2 : AVal} {t0 t1 t2 v nw : Int} {r : Nat}, r + j ≤ 1000 → JE H b o n f qr qh node term stamp first s0 s1 s2 t0 t1 t2 → NE nl now first v nw (max3 t0 t1 t2) r →
    ∃ H' first' s0' s1' s2' t0' t1' t2' v' nw', JE H' b o n f qr qh node term stamp first' s0' s1' s2' t0' t1' t2' ∧ NE nl now first' v' nw' (max3 t0' t1' t2') (r + j) ∧
      iter (aden Φ11 b8_0) (j + 1) ⟨tmE node term stamp b o n c now qr qh v nw k i, H, []⟩ = some (.exit 2, ⟨[(0, .int .i64 node), (1, .int .i64 term), (2, .int .i64 stamp), (3, .sl b o n c), (4, .int .i64 now), (11, .bool true), (12, .ptr qr 0), (14, .ptr qh 0), (16, .int .i64 v'), (17, .int .i64 nw'), (18, .int .i64 k), (19, .int .i64 n), (87, .bool false)], H', []⟩) := by
  intro j
  induction j with
  | zero =>
    intro i hi H first s0 s1 s2 t0 t1 t2 v nw r hr J N
    have hi' : i = n := by omega
    subst hi'
    exact ⟨H, first, s0, s1, s2, t0, t1, t2, v, nw, J, N, by rw [iter_succ, lastE]; rfl⟩
  | succ j ih =>
    intro i hi H first s0 s1 s2 t0 t1 t2 v nw r hr J N
    obtain ⟨H1, first1, a0, a1, a2, u0, u1, u2, J1, N1, hs⟩ := stepE (c := c) (k := k) J (show i < n by omega) hn (show r ≤ 1000 by omega) ht N (fun h => hl h i (by omega))
    obtain ⟨H2, first2, b0, b1, b2, w0, w1, w2, v', nw', J2, N2, h2⟩ := ih (i + 1) (by omega) (r := r + 1) (by omega) J1 N1
    refine ⟨H2, first2, b0, b1, b2, w0, w1, w2, v', nw', J2, by rw [show r + (j + 1) = r + 1 + j by omega]; exact N2, ?_⟩
    rw [iter_succ, hs, iterK_n]; exact h2
abbrev tmO (node term stamp : Int) (b o n : Nat) (c : Option Nat) (now : Int) (qr qh : Nat) (v nw k : Int) : Tm := [(0, .int .i64 node), (1, .int .i64 term), (2, .int .i64 stamp), (3, .sl b o n c), (4, .int .i64 now), (11, .bool true), (12, .ptr qr 0), (14, .ptr qh 0), (16, .int .i64 v), (17, .int .i64 nw), (18, .int .i64 k)]
theorem stepO {b o n : Nat} {c : Option Nat} {f : Nat → Msg} {qr qh : Nat} {node term stamp now : Int} {nl : Bool} (hn : n ≤ 60) (ht : inL term = true) (hl : nl = true → ∀ i, i < n → laterm node term now (f i) = false) (k : Nat) (hk : k < 2)
    {H : AHeap} {first s0 s1 s2 : AVal} {t0 t1 t2 v nw : Int} {r : Nat} (hr : r + n ≤ 1000) (J : JE H b o n f qr qh node term stamp first s0 s1 s2 t0 t1 t2) (N : NE nl now first v nw (max3 t0 t1 t2) r) :
    ∃ H' first' s0' s1' s2' t0' t1' t2' v' nw', JE H' b o n f qr qh node term stamp first' s0' s1' s2' t0' t1' t2' ∧ NE nl now first' v' nw' (max3 t0' t1' t2') (r + n) ∧
      aden Φ11 b8_1 ⟨tmO node term stamp b o n c now qr qh v nw k, H, []⟩ = some (.normal, ⟨tmO node term stamp b o n c now qr qh v' nw' (k + 1 : Nat), H', []⟩) := by
  obtain ⟨H', first', s0', s1', s2', t0', t1', t2', v', nw', J', N', h⟩ := loopE (c := c) (k := k) hn ht hl n 0 (by omega) hr J N
  refine ⟨H', first', s0', s1', s2', t0', t1', t2', v', nw', J', N', ?_⟩
  have h := iter_mono h (show n + 1 ≤ fuel by unfold fuel; omega)
  unfold tmE at h
  rw [show ((0 : Nat) : Int) = 0 from rfl] at h
  have hk' : (k : Int) < 2 := by omega
  have hw : IntKind.i64.wrap ((k : Int) + 1) = ((k : Int) + 1) := by rw [IntKind.wrap_i64]; omega
  unfold b8_1 tmO
  simp (maxSteps := 10000000) +contextual [go_sem, h, hk', hw]
theorem lastO {H : AHeap} {b o n qr qh : Nat} {c : Option Nat} {node term stamp now v nw : Int} :
    aden Φ11 b8_1 ⟨tmO node term stamp b o n c now qr qh v nw (0 + 1 + 1 : Nat), H, []⟩ = some (.exit 0, ⟨[(0, .int .i64 node), (1, .int .i64 term), (2, .int .i64 stamp), (3, .sl b o n c), (4, .int .i64 now), (11, .bool true), (12, .ptr qr 0), (14, .ptr qh 0), (16, .int .i64 v), (17, .int .i64 nw), (18, .int .i64 2), (81, .bool false)], H, []⟩) := by
  unfold b8_1 tmO
  simp (maxSteps := 10000000) +contextual [go_sem]
theorem mayN_of {node term : Int} (h : node = 0 ∨ node = 1) (ht : inL term = true) : mayN node term = true := by rcases h with rfl | rfl <;> simp [mayN, ht]
theorem law8 {H : AHeap} {b o n : Nat} {c : Option Nat} {f : Nat → Msg} {node term stamp now : Int} (hM : Msgs H b o n f) (hb : b < H.n) (hnn : n ≤ 9223372036854775807) :
    ∃ H', denF Φ11 none2 c8 [.int .i64 node, .int .i64 term, .int .i64 stamp, .sl b o n c, .int .i64 now] H = some (.bool true, H') := by
  obtain ⟨rr, hr, hr2⟩ := long15 (c := c) hM hnn
  cases rr with
  | true =>
    refine ⟨H, ?_⟩
    unfold c8
    simp (maxSteps := 10000000) +contextual [go_sem, p11_7, p11_15, rTrue7, hr]
  | false =>
  have hn := hr2 rfl
  by_cases a1 : node < 0
  · refine ⟨H, ?_⟩; unfold c8; simp (maxSteps := 10000000) +contextual [go_sem, p11_7, p11_15, rTrue7, hr, a1]
  by_cases a2 : 1 < node
  · refine ⟨H, ?_⟩; unfold c8; simp (maxSteps := 10000000) +contextual [go_sem, p11_7, p11_15, rTrue7, hr, a1, a2]
  by_cases a3 : term < 0
  · refine ⟨H, ?_⟩; unfold c8; simp (maxSteps := 10000000) +contextual [go_sem, p11_7, p11_15, rTrue7, hr, a1, a2, a3]
  by_cases a4 : 1099511627776 < term
  · refine ⟨H, ?_⟩; unfold c8; simp (maxSteps := 10000000) +contextual [go_sem, p11_7, p11_15, rTrue7, hr, a1, a2, a3, a4]
  by_cases a5 : stamp < 0
  · refine ⟨H, ?_⟩; unfold c8; simp (maxSteps := 10000000) +contextual [go_sem, p11_7, p11_15, rTrue7, hr, a1, a2, a3, a4, a5]
  by_cases a6 : 1099511627776 < stamp
  · refine ⟨H, ?_⟩; unfold c8; simp (maxSteps := 10000000) +contextual [go_sem, p11_7, p11_15, rTrue7, hr, a1, a2, a3, a4, a5, a6]
  have ht : inL term = true := by simp [inL]; omega
  have hs : inL stamp = true := by simp [inL]; omega
  have hmay : mayN node term = true := mayN_of (by omega) ht
  have hg : (mayN node term && inL stamp) = true := by simp [hmay, hs]
  have n1 : ¬ b = H.n := by omega
  have n2 : ¬ b = H.n + 1 := by omega
  have J : JE ((H.push (.cells [.bool true, .int .i64 node, .int .i64 term, .int .i64 stamp, .nilp] 48 5 .fixed)).push (.cells [.bool true, .int .i64 node, .int .i64 term, .nilp, .nilp, .nilp] 52 6 .fixed)) b o n f H.n (H.n + 1) node term stamp .nilp .nilp .nilp .nilp (-1) (-1) (-1) :=
    ⟨hM.mono (by simp [AHeap.get_push, n1, n2]), by simp; omega, by simp; omega, by simp, by omega, by omega, by omega, by simp [AHeap.get_push], .inl rfl, by simp [AHeap.get_push], .inl ⟨rfl, rfl⟩, .inl ⟨rfl, rfl⟩, .inl ⟨rfl, rfl⟩⟩
  obtain ⟨nl, hnl⟩ : ∃ nl, nl = !anyL node term now f 0 n := ⟨_, rfl⟩
  have hl : nl = true → ∀ i, i < n → laterm node term now (f i) = false := fun h i hi => by
    rw [hnl] at h
    exact anyL_no n 0 (by simpa using h) i (by omega) (by omega)
  have N : NE nl now .nilp 0 (-1) (max3 (-1) (-1) (-1)) 0 := ⟨by omega, by simp, by simp [max3, mx], fun _ h => by
    simp only [inL, Bool.and_eq_true, decide_eq_true_eq] at h
    refine ⟨by simp [max3, mx], ?_⟩
    simp [max3, mx]; omega⟩
  obtain ⟨H1, f1, a0, a1', a2', u0, u1, u2, v1, w1, J1, N1, h1⟩ := stepO (c := c) hn ht hl 0 (by omega) (by omega) J N
  obtain ⟨H2, f2, b0, b1, b2, x0, x1, x2, v2, w2, J2, N2, h2⟩ := stepO (c := c) hn ht hl (0 + 1) (by omega) (by omega) J1 N1
  have hit := iter_mono (iter_nnx h1 h2 lastO) (show 3 ≤ fuel by unfold fuel; omega)
  unfold tmO at hit
  rw [show ((0 : Nat) : Int) = 0 from rfl] at hit
  obtain ⟨xw, hw⟩ := won_first J2 N2.vf
  obtain ⟨H3, m1, m2, h3⟩ := later41 (c := c) (node := node) (term := term) (now := now) J2.ms J2.hb hn
  cases ha : anyL node term now f 0 n with
  | true =>
    rw [ha] at h3
    have J3 := J2.keep m1 m2
    obtain ⟨H4, m3, m4, h4⟩ := later41 (c := c) (node := node) (term := term) (now := now) J3.ms J3.hb hn
    rw [ha] at h4
    refine ⟨H4, ?_⟩
    unfold c8
    simp (maxSteps := 10000000) +contextual [go_sem, p11_7, p11_15, p11_17, p11_33, p11_21, p11_41, rTrue7, hr, a1, a2, a3, a4, a5, a6, new17_yes hg, begin33_yes hmay, hit, hw, h3, h4]
  | false =>
    rw [ha] at h3
    have J3 := J2.keep m1 m2
    have hv := J3.valid now
    have e : decide (0 < left3 x0 x1 x2 now) = validL w2 now := by
      cases hi : inL now with
      | true =>
        obtain ⟨e1, e2⟩ := N2.nw (by rw [hnl, ha]; rfl) hi
        rw [e1]; exact left3_max hi e2
      | false => rw [left3_out hi, validL_out hi]; simp
    rw [e] at hv
    refine ⟨H3, ?_⟩
    unfold c8
    simp (maxSteps := 10000000) +contextual [go_sem, p11_7, p11_15, p11_17, p11_33, p11_21, p11_31, p11_41, p11_42, rValid, rTrue7, hr, a1, a2, a3, a4, a5, a6, new17_yes hg, begin33_yes hmay, hit, hw, h3, hv]
theorem nilE {G : AHeap} {qr qh : Nat} {node term stamp now : Int} (k : Nat) (hk : k < 2) :
    aden Φ11 b8_1 ⟨[(0, .int .i64 node), (1, .int .i64 term), (2, .int .i64 stamp), (3, .nils), (4, .int .i64 now), (11, .bool true), (12, .ptr qr 0), (14, .ptr qh 0), (16, .int .i64 0), (17, .int .i64 (-1)), (18, .int .i64 k)], G, []⟩ = some (.normal, ⟨[(0, .int .i64 node), (1, .int .i64 term), (2, .int .i64 stamp), (3, .nils), (4, .int .i64 now), (11, .bool true), (12, .ptr qr 0), (14, .ptr qh 0), (16, .int .i64 0), (17, .int .i64 (-1)), (18, .int .i64 (k + 1 : Nat))], G, []⟩) := by
  have h : iter (aden Φ11 b8_0) (0 + 1) ⟨[(0, .int .i64 node), (1, .int .i64 term), (2, .int .i64 stamp), (3, .nils), (4, .int .i64 now), (11, .bool true), (12, .ptr qr 0), (14, .ptr qh 0), (16, .int .i64 0), (17, .int .i64 (-1)), (18, .int .i64 k), (19, .int .i64 0)], G, []⟩ = some (.exit 2, ⟨[(0, .int .i64 node), (1, .int .i64 term), (2, .int .i64 stamp), (3, .nils), (4, .int .i64 now), (11, .bool true), (12, .ptr qr 0), (14, .ptr qh 0), (16, .int .i64 0), (17, .int .i64 (-1)), (18, .int .i64 k), (19, .int .i64 0), (87, .bool false)], G, []⟩) := by
    rw [iter_succ]
    unfold b8_0
    simp (maxSteps := 10000000) +contextual [go_sem]
  have h := iter_mono h (show 0 + 1 ≤ fuel by unfold fuel; omega)
  have hk' : (k : Int) < 2 := by omega
  have hw : IntKind.i64.wrap ((k : Int) + 1) = ((k : Int) + 1) := by rw [IntKind.wrap_i64]; omega
  unfold b8_1
  simp (maxSteps := 10000000) +contextual [go_sem, h, hk', hw]
theorem nilO {G : AHeap} {qr qh : Nat} {node term stamp now : Int} :
    aden Φ11 b8_1 ⟨[(0, .int .i64 node), (1, .int .i64 term), (2, .int .i64 stamp), (3, .nils), (4, .int .i64 now), (11, .bool true), (12, .ptr qr 0), (14, .ptr qh 0), (16, .int .i64 0), (17, .int .i64 (-1)), (18, .int .i64 (0 + 1 + 1 : Nat))], G, []⟩ = some (.exit 0, ⟨[(0, .int .i64 node), (1, .int .i64 term), (2, .int .i64 stamp), (3, .nils), (4, .int .i64 now), (11, .bool true), (12, .ptr qr 0), (14, .ptr qh 0), (16, .int .i64 0), (17, .int .i64 (-1)), (18, .int .i64 2), (81, .bool false)], G, []⟩) := by
  unfold b8_1
  simp (maxSteps := 10000000) +contextual [go_sem]
theorem nil41 {H : AHeap} {node term now : Int} : denF none2 none2 c41 [.nils, .int .i64 node, .int .i64 term, .int .i64 now] H = some (.bool false, H) := by
  have h : iter (aden none2 b41_0) (0 + 1) ⟨[(0, .nils), (1, .int .i64 node), (2, .int .i64 term), (3, .int .i64 now), (9, .int .i64 0)], H, []⟩ = some (.exit 0, ⟨[(0, .nils), (1, .int .i64 node), (2, .int .i64 term), (3, .int .i64 now), (9, .int .i64 0), (14, .bool false)], H, []⟩) := by
    rw [iter_succ]
    unfold b41_0
    simp (maxSteps := 10000000) +contextual [go_sem]
  have h := iter_mono h (show 0 + 1 ≤ fuel by unfold fuel; omega)
  unfold c41
  simp (maxSteps := 10000000) +contextual [go_sem, h]
theorem law8n {H : AHeap} {node term stamp now : Int} :
    ∃ H', denF Φ11 none2 c8 [.int .i64 node, .int .i64 term, .int .i64 stamp, .nils, .int .i64 now] H = some (.bool true, H') := by
  have hr := nil15 (H := H)
  by_cases a1 : node < 0
  · refine ⟨H, ?_⟩; unfold c8; simp (maxSteps := 10000000) +contextual [go_sem, p11_7, p11_15, rTrue7, hr, a1]
  by_cases a2 : 1 < node
  · refine ⟨H, ?_⟩; unfold c8; simp (maxSteps := 10000000) +contextual [go_sem, p11_7, p11_15, rTrue7, hr, a1, a2]
  by_cases a3 : term < 0
  · refine ⟨H, ?_⟩; unfold c8; simp (maxSteps := 10000000) +contextual [go_sem, p11_7, p11_15, rTrue7, hr, a1, a2, a3]
  by_cases a4 : 1099511627776 < term
  · refine ⟨H, ?_⟩; unfold c8; simp (maxSteps := 10000000) +contextual [go_sem, p11_7, p11_15, rTrue7, hr, a1, a2, a3, a4]
  by_cases a5 : stamp < 0
  · refine ⟨H, ?_⟩; unfold c8; simp (maxSteps := 10000000) +contextual [go_sem, p11_7, p11_15, rTrue7, hr, a1, a2, a3, a4, a5]
  by_cases a6 : 1099511627776 < stamp
  · refine ⟨H, ?_⟩; unfold c8; simp (maxSteps := 10000000) +contextual [go_sem, p11_7, p11_15, rTrue7, hr, a1, a2, a3, a4, a5, a6]
  have ht : inL term = true := by simp [inL]; omega
  have hs : inL stamp = true := by simp [inL]; omega
  have hmay : mayN node term = true := mayN_of (by omega) ht
  have hg : (mayN node term && inL stamp) = true := by simp [hmay, hs]
  obtain ⟨G, hG⟩ : ∃ G, G = (H.push (.cells [.bool true, .int .i64 node, .int .i64 term, .int .i64 stamp, .nilp] 48 5 .fixed)).push (.cells [.bool true, .int .i64 node, .int .i64 term, .nilp, .nilp, .nilp] 52 6 .fixed) := ⟨_, rfl⟩
  have hR : G.get H.n = .cells [.bool true, .int .i64 node, .int .i64 term, .int .i64 stamp, .nilp] 48 5 .fixed := by rw [hG]; simp [AHeap.get_push]
  have hA : G.get (H.n + 1) = .cells [.bool true, .int .i64 node, .int .i64 term, .nilp, .nilp, .nilp] 52 6 .fixed := by rw [hG]; simp [AHeap.get_push]
  have gn : G.n = H.n + 2 := by rw [hG]; simp
  have hit := iter_mono (iter_nnx (nilE (G := G) (qr := H.n) (qh := H.n + 1) (node := node) (term := term) (stamp := stamp) (now := now) 0 (by omega)) (nilE (0 + 1) (by omega)) nilO) (show 3 ≤ fuel by unfold fuel; omega)
  rw [show ((0 : Nat) : Int) = 0 from rfl] at hit
  have hw := won21_no hR (by omega)
  have h3 := nil41 (H := G) (node := node) (term := term) (now := now)
  have hv : denF Φ7 none2 c31 [.ptr (H.n + 1) 0, .int .i64 now] G = some (.bool false, G) := by
    have st : ∀ k : Nat, k < 3 → aden Φ5 b32_0 ⟨[(1, .int .i64 now), (5, .int .i64 0), (12, .ptr (H.n + 1) 3), (13, .int .i64 k)], G, []⟩ = some (.normal, ⟨[(1, .int .i64 now), (5, .int .i64 0), (12, .ptr (H.n + 1) 3), (13, .int .i64 (k + 1 : Nat))], G, []⟩) := by
      intro k hk
      rcases (show k = 0 ∨ k = 1 ∨ k = 2 by omega) with rfl | rfl | rfl
      · exact step32_0n hA
      · exact step32_1n hA
      · exact step32_2n hA
    have h : iter (aden Φ5 b32_0) (0 + 1 + 1 + 1 + 1) ⟨[(1, .int .i64 now), (5, .int .i64 0), (12, .ptr (H.n + 1) 3), (13, .int .i64 (0 : Nat))], G, []⟩ = some (.exit 0, ⟨[(1, .int .i64 now), (5, .int .i64 0), (12, .ptr (H.n + 1) 3), (13, .int .i64 3), (14, .bool false)], G, []⟩) := by
      rw [iter_succ, st 0 (by omega), iterK_n, iter_succ, st (0 + 1) (by omega), iterK_n, iter_succ, st (0 + 1 + 1) (by omega), iterK_n, iter_succ]
      exact congrArg (fun x => iterK x _ _) last32
    have h := iter_mono h (show 0 + 1 + 1 + 1 + 1 ≤ fuel by unfold fuel; omega)
    rw [show ((0 : Nat) : Int) = 0 from rfl] at h
    have e : denF Φ5 none2 c32 [.ptr (H.n + 1) 0, .int .i64 now] G = some (.int .i64 0, G) := by
      unfold c32
      simp (maxSteps := 10000000) +contextual [go_sem, h, hA]
    unfold c31
    simp (maxSteps := 10000000) +contextual [go_sem, p7_32, e]
  have e1 : validL (-1) now = false := by simp [validL, inL]
  rw [hG] at hit hw h3 hv
  refine ⟨(H.push (.cells [.bool true, .int .i64 node, .int .i64 term, .int .i64 stamp, .nilp] 48 5 .fixed)).push (.cells [.bool true, .int .i64 node, .int .i64 term, .nilp, .nilp, .nilp] 52 6 .fixed), ?_⟩
  unfold c8
  simp (maxSteps := 10000000) +contextual [go_sem, p11_7, p11_15, p11_17, p11_33, p11_21, p11_31, p11_41, p11_42, rValid, rTrue7, hr, a1, a2, a3, a4, a5, a6, new17_yes hg, begin33_yes hmay, hit, hw, h3, hv, e1]
theorem s8 : Sound Try.prog 8 (denF Φ11 none2 c8) := fun_sound ok11 none_soundD mixed Try.func8 cal8 comp8
end Go.Eng.SeatB

/- Layer 14: NetFull. -/
import Derived.Test.YtgmaknppneonfaaScC
set_option linter.unusedSimpArgs false
set_option linter.unusedVariables false
set_option maxHeartbeats 40000000
namespace Go.Eng.SeatC
open Go.Proofs
def pickL (x : Int) : Int := if x.tmod 4200 < 0 then x.tmod 4200 + 4200 else x.tmod 4200
theorem pickL_of (x : Int) : 0 ≤ pickL x ∧ pickL x < 4200 := by
  unfold pickL
  have h1 := Int.tmod_lt_of_pos x (show (0 : Int) < 4200 by omega)
  have h2 : -4200 < x.tmod 4200 := Int.lt_tmod_of_pos x (by omega)
  split <;> omega
theorem pick12 {H : AHeap} (x : Int) : denF none2 none2 c12 [.int .i64 x, .int .i64 4200] H = some (.int .i64 (pickL x), H) := by
  have h1 := Int.tmod_lt_of_pos x (show (0 : Int) < 4200 by omega)
  have h2 : -4200 < x.tmod 4200 := Int.lt_tmod_of_pos x (by omega)
  have hw : IntKind.i64.wrap (x.tmod 4200 + 4200) = x.tmod 4200 + 4200 := by rw [IntKind.wrap_i64]; omega
  unfold pickL
  unfold c12
  by_cases h : x.tmod 4200 < 0
  · simp (maxSteps := 10000000) +contextual [go_sem, h, hw]
  · simp (maxSteps := 10000000) +contextual [go_sem, h, hw]
theorem new10 {H : AHeap} : denF none2 none2 c10 [] H = some (.ptr H.n 0, H.push (.cells (nb .nils 0) 56 12 .fixed)) := by
  unfold c10 nb
  simp (maxSteps := 10000000) +contextual [go_sem]
theorem JN.count {H : AHeap} {q N : Nat} {lost : Int} (J : JN H q N lost) : denF Ω0 none2 c14 [.ptr q 0] H = some (.int .i64 N, H) := by
  obtain ⟨lq, way, hw, hq⟩ := J
  have n26 := none26 hq
  have hlen : lenK (some way) = some (.int .i64 N) := by
    rcases hw with ⟨rfl, rfl⟩ | ⟨w, L, f, t, b', x', h0, rfl, _⟩ <;> rfl
  unfold nb at hq
  unfold c14
  simp (maxSteps := 10000000) +contextual [go_sem, hq, hlen, o0_26, n26]
theorem JN.lost {H : AHeap} {q N : Nat} {lost : Int} (J : JN H q N lost) : denF Ω0 none2 c15 [.ptr q 0] H = some (.int .i64 lost, H) := by
  obtain ⟨lq, way, hw, hq⟩ := J
  have n26 := none26 hq
  unfold nb at hq
  unfold c15
  simp (maxSteps := 10000000) +contextual [go_sem, hq, o0_26, n26]
def Ω3 : Phi := updP (updP (updP (updP (updP (updP (updP none2 10 (denF none2 none2 c10)) 12 (denF none2 none2 c12)) 13 (denF Ω0 none2 c13)) 14 (denF Ω0 none2 c14)) 15 (denF Ω0 none2 c15)) 17 (denF Ω2 none2 c17)) 9 (pspec rTrue9)
theorem oko3 : ∀ f, Sound Try.prog f (Ω3 f) := updP_ok (updP_ok (updP_ok (updP_ok (updP_ok (updP_ok (updP_ok none_sound (fun_sound none_sound none_soundD mixed Try.func10 cal10 comp10)) (fun_sound none_sound none_soundD mixed Try.func12 cal12 comp12)) (fun_sound oko0 none_soundD mixed Try.func13 cal13 comp13)) (fun_sound oko0 none_soundD mixed Try.func14 cal14 comp14)) (fun_sound oko0 none_soundD mixed Try.func15 cal15 comp15)) (fun_sound oko2 none_soundD mixed Try.func17 cal17 comp17)) s9
theorem o3_10 (l : List AVal) (H : AHeap) : Ω3 10 l H = denF none2 none2 c10 l H := (rfl)
theorem o3_12 (l : List AVal) (H : AHeap) : Ω3 12 l H = denF none2 none2 c12 l H := (rfl)
theorem o3_13 (l : List AVal) (H : AHeap) : Ω3 13 l H = denF Ω0 none2 c13 l H := (rfl)
theorem o3_14 (l : List AVal) (H : AHeap) : Ω3 14 l H = denF Ω0 none2 c14 l H := (rfl)
theorem o3_15 (l : List AVal) (H : AHeap) : Ω3 15 l H = denF Ω0 none2 c15 l H := (rfl)
theorem o3_17 (l : List AVal) (H : AHeap) : Ω3 17 l H = denF Ω2 none2 c17 l H := (rfl)
theorem o3_9 (l : List AVal) (H : AHeap) : Ω3 9 l H = pspec rTrue9 l H := (rfl)
def sentN (i : Nat) : Nat := if i < 4096 then i else 4096
def sentL (i : Nat) : Int := if i < 4096 then 0 else i - 4096
theorem sentN_lt {i : Nat} (h : i < 4096) : sentN i = i ∧ sentL i = 0 := ⟨if_pos h, if_pos h⟩
theorem sentN_ge {i : Nat} (h : ¬ i < 4096) : sentN i = 4096 ∧ sentL i = i - 4096 := ⟨if_neg h, if_neg h⟩
theorem sent_next (i : Nat) : (if sentN i < 4096 then sentN i + 1 else sentN i) = sentN (i + 1) ∧ (if sentN i < 4096 then sentL i else sentL i + 1) = sentL (i + 1) := by
  by_cases h : i < 4096
  · rw [(sentN_lt h).1, (sentN_lt h).2, if_pos h, if_pos h]
    by_cases h2 : i + 1 < 4096
    · rw [(sentN_lt h2).1, (sentN_lt h2).2]; exact ⟨rfl, rfl⟩
    · rw [(sentN_ge h2).1, (sentN_ge h2).2]; omega
  · have h2 : ¬ i + 1 < 4096 := by omega
    rw [(sentN_ge h).1, (sentN_ge h).2, (sentN_ge h2).1, (sentN_ge h2).2]
    rw [if_neg (by omega), if_neg (by omega)]
    omega
theorem stepS {H : AHeap} {q i S : Nat} {D : Int} (J : JN H q (sentN i) (sentL i)) (hi : i < S) (hS : S ≤ 4200) :
    ∃ H', JN H' q (sentN (i + 1)) (sentL (i + 1)) ∧ aden Ω3 b4_1 ⟨[(0, .int .i64 S), (1, .int .i64 D), (5, .ptr q 0), (6, .int .i64 i)], H, []⟩ = some (.normal, ⟨[(0, .int .i64 S), (1, .int .i64 D), (5, .ptr q 0), (6, .int .i64 (i + 1 : Nat))], H', []⟩) := by
  have lq := J.lq
  have J1 : JN (H.push (.cells [.int .u8 (IntKind.u8.wrap i)] 5 1 .fixed)) q (sentN i) (sentL i) := by
    obtain ⟨lq, way, hw, hq⟩ := J
    exact ⟨by simp; omega, way, hw.keep (by simp) fun z h _ => by rw [AHeap.get_push, if_neg (by omega)], by rw [AHeap.get_push, if_neg (by omega)]; exact hq⟩
  obtain ⟨H', e, J'⟩ := J1.send (by unfold sentN; split <;> omega) (b := H.n) (x := .int .u8 (IntKind.u8.wrap i)) (by rw [AHeap.get_push, if_pos rfl]) (by simp) (by omega) rfl (by unfold sentL; split <;> omega)
  refine ⟨H', ?_, ?_⟩
  · rw [← (sent_next i).1, ← (sent_next i).2]; exact J'
  · have hw : IntKind.i64.wrap ((i : Int) + 1) = ((i : Int) + 1) := by rw [IntKind.wrap_i64]; omega
    have h1 : (i : Int) < (S : Int) := by omega
    unfold b4_1
    simp (maxSteps := 10000000) +contextual [go_sem, h1, hi, hw, o3_13, e]
theorem lastS {H : AHeap} {q S : Nat} {D : Int} : aden Ω3 b4_1 ⟨[(0, .int .i64 S), (1, .int .i64 D), (5, .ptr q 0), (6, .int .i64 S)], H, []⟩ = some (.exit 0, ⟨[(0, .int .i64 S), (1, .int .i64 D), (5, .ptr q 0), (6, .int .i64 S), (19, .bool false)], H, []⟩) := by
  unfold b4_1
  simp (maxSteps := 10000000) +contextual [go_sem]
theorem loopS {q S : Nat} {D : Int} (hS : S ≤ 4200) : ∀ (j i : Nat), i + j = S → ∀ {H : AHeap}, JN H q (sentN i) (sentL i) →
    ∃ H', JN H' q (sentN S) (sentL S) ∧ iter (aden Ω3 b4_1) (j + 1) ⟨[(0, .int .i64 S), (1, .int .i64 D), (5, .ptr q 0), (6, .int .i64 i)], H, []⟩ = some (.exit 0, ⟨[(0, .int .i64 S), (1, .int .i64 D), (5, .ptr q 0), (6, .int .i64 S), (19, .bool false)], H', []⟩) := by
  intro j
  induction j with
  | zero =>
    intro i hi H J
    have hi' : i = S := by omega
    subst hi'
    exact ⟨H, J, by rw [iter_succ, lastS]; rfl⟩
  | succ j ih =>
    intro i hi H J
    obtain ⟨H1, J1, hs⟩ := stepS (D := D) J (show i < S by omega) hS
    obtain ⟨H2, J2, h2⟩ := ih (i + 1) (by omega) J1
    exact ⟨H2, J2, by rw [iter_succ, hs, iterK_n]; exact h2⟩
theorem stepD {H : AHeap} {q i D N : Nat} {S lost : Int} (J : JN H q N lost) (h0 : 0 < N) (hN : N ≤ 4096) (hi : i < D) (hD : D ≤ 4200) :
    ∃ H', JN H' q (if N < 4096 then N + 1 else N) lost ∧ aden Ω3 b4_0 ⟨[(0, .int .i64 S), (1, .int .i64 D), (5, .ptr q 0), (7, .int .i64 N), (8, .int .i64 i)], H, []⟩ = some (.normal, ⟨[(0, .int .i64 S), (1, .int .i64 D), (5, .ptr q 0), (7, .int .i64 (if N < 4096 then N + 1 else N : Nat)), (8, .int .i64 (i + 1 : Nat))], H', []⟩) := by
  obtain ⟨H', e, J'⟩ := J.double h0 hN
  refine ⟨H', J', ?_⟩
  have hw : IntKind.i64.wrap ((i : Int) + 1) = ((i : Int) + 1) := by rw [IntKind.wrap_i64]; omega
  have hw2 : IntKind.i64.wrap ((N : Int) + 1) = ((N : Int) + 1) := by rw [IntKind.wrap_i64]; omega
  have h1 : (i : Int) < (D : Int) := by omega
  have h2 : (0 : Int) < (N : Int) := by omega
  by_cases hlt : N < 4096
  · have h3 : (N : Int) < 4096 := by omega
    rw [if_pos hlt] at e ⊢
    unfold b4_0
    simp (maxSteps := 10000000) +contextual [go_sem, h0, h1, h2, h3, hlt, hi, hw, hw2, o3_17, e]
  · have h3 : ¬ (N : Int) < 4096 := by omega
    rw [if_neg hlt] at e ⊢
    unfold b4_0
    simp (maxSteps := 10000000) +contextual [go_sem, h0, h1, h2, h3, hlt, hi, hw, hw2, o3_17, e]
theorem lastD {H : AHeap} {q D N : Nat} {S : Int} : aden Ω3 b4_0 ⟨[(0, .int .i64 S), (1, .int .i64 D), (5, .ptr q 0), (7, .int .i64 N), (8, .int .i64 D)], H, []⟩ = some (.exit 2, ⟨[(0, .int .i64 S), (1, .int .i64 D), (5, .ptr q 0), (7, .int .i64 N), (8, .int .i64 D), (36, .bool false)], H, []⟩) := by
  unfold b4_0
  simp (maxSteps := 10000000) +contextual [go_sem]
theorem noneD {H : AHeap} {q : Nat} {S D : Int} : aden Ω3 b4_0 ⟨[(0, .int .i64 S), (1, .int .i64 D), (5, .ptr q 0), (7, .int .i64 0), (8, .int .i64 0)], H, []⟩ = some (.exit 2, ⟨[(0, .int .i64 S), (1, .int .i64 D), (5, .ptr q 0), (7, .int .i64 0), (8, .int .i64 0), (36, .bool false)], H, []⟩) := by
  unfold b4_0
  by_cases h : 0 < D
  · simp (maxSteps := 10000000) +contextual [go_sem, h]
  · simp (maxSteps := 10000000) +contextual [go_sem, h]
theorem loopD {q D : Nat} {S lost : Int} (hD : D ≤ 4200) : ∀ (j i : Nat), i + j = D → ∀ {H : AHeap} {N : Nat}, JN H q N lost → 0 < N → N ≤ 4096 →
    ∃ H' N', JN H' q N' lost ∧ iter (aden Ω3 b4_0) (j + 1) ⟨[(0, .int .i64 S), (1, .int .i64 D), (5, .ptr q 0), (7, .int .i64 N), (8, .int .i64 i)], H, []⟩ = some (.exit 2, ⟨[(0, .int .i64 S), (1, .int .i64 D), (5, .ptr q 0), (7, .int .i64 N'), (8, .int .i64 D), (36, .bool false)], H', []⟩) := by
  intro j
  induction j with
  | zero =>
    intro i hi H N J h0 hN
    have hi' : i = D := by omega
    subst hi'
    exact ⟨H, N, J, by rw [iter_succ, lastD]; rfl⟩
  | succ j ih =>
    intro i hi H N J h0 hN
    obtain ⟨H1, J1, hs⟩ := stepD (S := S) J h0 hN (show i < D by omega) hD
    obtain ⟨H2, N2, J2, h2⟩ := ih (i + 1) (by omega) J1 (by split <;> omega) (by split <;> omega)
    exact ⟨H2, N2, J2, by rw [iter_succ, hs, iterK_n]; exact h2⟩
def r4 : List AVal → Option AVal
  | [.int .i64 _, .int .i64 _] => some (.bool true)
  | _ => none
theorem law4 {H : AHeap} (a b : Int) : ∃ H', denF Ω3 none2 c4 [.int .i64 a, .int .i64 b] H = some (.bool true, H') := by
  obtain ⟨S, hS⟩ : ∃ S : Nat, pickL a = S := ⟨(pickL a).toNat, by have := pickL_of a; omega⟩
  obtain ⟨D, hD⟩ : ∃ D : Nat, pickL b = D := ⟨(pickL b).toNat, by have := pickL_of b; omega⟩
  have s1 := pickL_of a
  have d1 := pickL_of b
  have pa := fun G => pick12 (H := G) a
  have pb := fun G => pick12 (H := G) b
  rw [hS] at pa s1
  rw [hD] at pb d1
  have J0 : JN (H.push (.cells (nb .nils 0) 56 12 .fixed)) H.n (sentN 0) (sentL 0) := ⟨by simp, .nils, .inl ⟨rfl, rfl⟩, by rw [AHeap.get_push, if_pos rfl]; rfl⟩
  obtain ⟨H1, J1, h1⟩ := loopS (S := S) (D := D) (by omega) S 0 (by omega) J0
  have h1 := iter_mono h1 (show S + 1 ≤ fuel by unfold fuel; omega)
  rw [show ((0 : Nat) : Int) = 0 from rfl] at h1
  have hmin : (if (4096 : Int) < (S : Int) then 4096 else (S : Int)) = (sentN S : Int) := by by_cases h : S < 4096 <;> first | (rw [(sentN_lt h).1]; split <;> omega) | (rw [(sentN_ge h).1]; split <;> omega)
  have hmin2 : (if (S : Int) < 4096 then (S : Int) else 4096) = (sentN S : Int) := by by_cases h : S < 4096 <;> first | (rw [(sentN_lt h).1]; split <;> omega) | (rw [(sentN_ge h).1]; split <;> omega)
  have hmax : (if (0 : Int) < (S : Int) - 4096 then (S : Int) - 4096 else 0) = sentL S := by by_cases h : S < 4096 <;> first | (rw [(sentN_lt h).2]; split <;> omega) | (rw [(sentN_ge h).2]; split <;> omega)
  have hmax2 : (if (4096 : Int) < (S : Int) then (S : Int) - 4096 else 0) = sentL S := by by_cases h : S < 4096 <;> first | (rw [(sentN_lt h).2]; split <;> omega) | (rw [(sentN_ge h).2]; split <;> omega)
  have hws : IntKind.i64.wrap ((S : Int) - 4096) = (S : Int) - 4096 := by rw [IntKind.wrap_i64]; omega
  have key : ∀ (N : Nat) (i : Int) (G : AHeap), JN G H.n N (sentL S) → iter (aden Ω3 b4_0) fuel ⟨[(0, .int .i64 S), (1, .int .i64 D), (5, .ptr H.n 0), (7, .int .i64 (sentN S)), (8, .int .i64 0)], H1, []⟩ = some (.exit 2, ⟨[(0, .int .i64 S), (1, .int .i64 D), (5, .ptr H.n 0), (7, .int .i64 N), (8, .int .i64 i), (36, .bool false)], G, []⟩) → ∃ H', denF Ω3 none2 c4 [.int .i64 a, .int .i64 b] H = some (.bool true, H') := by
    intro N i G JG hit
    have hc := JG.count
    have hl := JG.lost
    have hn := new10 (H := H)
    unfold c4
    simp (maxSteps := 10000000) +contextual [go_sem, o3_10, o3_12, o3_14, o3_15, o3_9, rTrue9, hn, pa, pb, h1, hmin, hmin2, hit, hc, hl, hmax, hmax2, hws]
  rcases Nat.eq_zero_or_pos (sentN S) with hz | hp
  · rw [hz] at J1
    have hit := iter_mono (f := aden Ω3 b4_0) (n := 0 + 1) (by rw [iter_succ, noneD (H := H1) (q := H.n) (S := S) (D := D), iterK_e]) (show 0 + 1 ≤ fuel by unfold fuel; omega)
    refine key 0 0 H1 J1 ?_
    rw [hz]; exact hit
  · obtain ⟨G, N, JG, hit⟩ := loopD (S := S) (show D ≤ 4200 by omega) D 0 (by omega) J1 hp (by unfold sentN; split <;> omega)
    exact key N D G JG (iter_mono hit (show D + 1 ≤ fuel by unfold fuel; omega))
theorem s4 : Sound Try.prog 4 (pspec r4) := by
  refine (fun_sound oko3 none_soundD mixed Try.func4 cal4 comp4).pspec (φ := denF Ω3 none2 c4) fun args v h => ?_
  unfold r4 at h
  split at h
  · simp only [Option.some.injEq] at h; subst h
    exact ⟨rfl, rfl, law4 _ _⟩
  · simp at h
end Go.Eng.SeatC

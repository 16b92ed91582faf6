/- Layer 14: NetKeeps, what is taken off its way, and doubled. -/
import Derived.Test.YtgmaknppneonfaaScP
set_option linter.unusedSimpArgs false
set_option linter.unusedVariables false
set_option maxHeartbeats 40000000
namespace Go.Eng.SeatC
open Go.Proofs
theorem deleteq {H : AHeap} {w K i : Nat} {A C M Z : List AVal} (hW : H.get w = .cells (A ++ C ++ M ++ Z) 39 3 .elastic) (lw : w < H.n) (hA : A.length = i * 3) (h0 : C.length = 3) (hi : i ≤ K) (hM : M.length = (K - i) * 3) (hMc : M.all AVal.isCell = true) (hK : K ≤ 4200) :
    ∃ H' Z', denF none2 none2 c29 [.sl w 0 (K + 1) none, .int .i64 i, .int .i64 ((i : Int) + 1)] H = some (.sl w 0 K none, H') ∧ H'.n = H.n ∧ (∀ z, z ≠ w → H'.get z = H.get z) ∧ H'.get w = .cells (A ++ M ++ Z') 39 3 .elastic := by
  have hL : (A ++ C ++ M ++ Z).length = 3 + K * 3 + Z.length := by simp [h0, hM, hA]; omega
  generalize hLL : A ++ C ++ M ++ Z = LL at hW hL
  have hAM : (A ++ M).length = K * 3 := by simp [hA, hM]; omega
  have q1 : K + 1 ≤ (LL.length - 0) / 3 := by omega
  have t1 : ((i : Int) + 1).toNat = i + 1 := by omega
  have t2 : ((K : Int) + 1).toNat = K + 1 := by omega
  have f1 : ∃ v, slice3Blk w 0 (K + 1) 3 (some (.int .i64 i)) (.int .i64 ((i : Int) + 1)) (.int .i64 ((K : Int) + 1)) (.cells LL 39 3 .elastic) = some v := by
    simp only [slice3Blk, if_true, slice3A, mx3]
    rw [if_pos (by omega)]
    simp only [Option.bind_some, t2, abounds]
    rw [if_pos (by omega)]
    simp only [Option.bind_some, t1]
    rw [if_pos (by omega)]
    exact ⟨_, rfl⟩
  obtain ⟨v1, f1⟩ := f1
  have f2 : sliceBlk w 0 (K + 1) 3 none (some (.int .i64 i)) (.cells LL 39 3 .elastic) = some (.sl w 0 i none) := by
    simp only [sliceBlk, if_true, abounds]
    rw [if_pos (by omega)]
    simp
  have zer : ∀ (G : AHeap) (L2 : List AVal), G.get w = .cells L2 39 3 .elastic → L2.length = LL.length → L2.take (K * 3) = A ++ M → ∃ Z', sliceBlk w 0 K 3 (some (.int .i64 K)) (some (.int .i64 ((K : Int) + 1))) (.cells L2 39 3 .elastic) = some (.sl w (K * 3) 1 none) ∧ G.store w (K * 3) [.int .i64 0, .int .i64 0, .nils] = some (G.set w (.cells (A ++ M ++ Z') 39 3 .elastic)) := by
    intro G L2 hG hl hm
    refine ⟨[.int .i64 0, .int .i64 0, .nils] ++ L2.drop (K * 3 + 3), ?_, ?_⟩
    · have q2 : K + 1 ≤ (L2.length - 0) / 3 := by omega
      simp only [sliceBlk, if_true, abounds]
      rw [if_pos (by omega)]
      simp only [Option.bind_some, t2]
      rw [if_pos (by omega)]
      simp only [Option.bind_some, Int.toNat_natCast]
      by_cases hk : K = 0
      · subst hk; simp
      · rw [if_neg hk, if_pos (by omega)]; simp
    · rw [store_el hG (by simp; omega) (by simp [AVal.isCell])]
      simp only [placeA, hm, List.length_cons, List.length_nil, List.append_assoc]
  have dne : ¬ (i : Int) = (i : Int) + 1 := by omega
  have dC : LL.drop ((i + 1) * 3) = M ++ Z := by
    have e : (A ++ C).length = (i + 1) * 3 := by simp [hA, h0]; omega
    rw [← hLL, List.append_assoc (A ++ C)]; exact List.drop_left' e
  rcases Nat.eq_or_lt_of_le hi with rfl | hlt
  · have hM0 : M = [] := List.eq_nil_of_length_eq_zero (by simpa using hM)
    subst hM0
    obtain ⟨Z', z1, z2⟩ := zer H LL hW rfl (by rw [← hLL]; simp only [List.append_nil, List.append_assoc]; exact List.take_left' hA)
    refine ⟨H.set w (.cells (A ++ [] ++ Z') 39 3 .elastic), Z', ?_, by simp, fun z h => by rw [AHeap.get_set, if_neg h], by rw [AHeap.get_set, if_pos rfl]⟩
    simp only [List.append_nil] at z1 z2 ⊢
    by_cases hz : i + 1 < (LL.length - 0) / 3
    · have f3 : sliceBlk w 0 (i + 1) 3 (some (.int .i64 ((i : Int) + 1))) none (.cells LL 39 3 .elastic) = some (.sl w ((i + 1) * 3) 0 none) := by
        simp only [sliceBlk, if_true, abounds, Option.bind_some]
        rw [if_pos (by omega)]
        simp only [Option.bind_some, t1]
        rw [if_neg (by omega), if_pos hz]; simp
      have f4 : appendA H 39 3 40 (.sl w 0 i none) (.sl w ((i + 1) * 3) 0 none) = some (.sl w 0 i none, H) := by
        have e1 : (i + 1) * 3 ≤ LL.length := by omega
        have e2 : i * 3 ≤ LL.length := by omega
        simp [appendA, lenA, srcCells, hW, roomA, e1, e2]
      unfold c29
      simp (maxSteps := 10000000) +contextual [go_sem, hW, lw, f1, f2, f3, f4, z1, z2, dne]
    · have f3 : sliceBlk w 0 (i + 1) 3 (some (.int .i64 ((i : Int) + 1))) none (.cells LL 39 3 .elastic) = some (.etail w 0 (i + 1) 3) := by
        simp only [sliceBlk, if_true, abounds, Option.bind_some]
        rw [if_pos (by omega)]
        simp only [Option.bind_some, t1]
        rw [if_neg (by omega), if_neg hz]; simp
      have f4 : appendA H 39 3 40 (.sl w 0 i none) (.etail w 0 (i + 1) 3) = some (.sl w 0 i none, H) := by
        have e2 : i * 3 ≤ LL.length := by omega
        simp [appendA, lenA, srcCells, hW, roomA, e2]
      unfold c29
      simp (maxSteps := 10000000) +contextual [go_sem, hW, lw, f1, f2, f3, f4, z1, z2, dne]
  · have f3 : sliceBlk w 0 (K + 1) 3 (some (.int .i64 ((i : Int) + 1))) none (.cells LL 39 3 .elastic) = some (.sl w ((i + 1) * 3) (K - i) none) := by
      simp only [sliceBlk, if_true, abounds, Option.bind_some]
      rw [if_pos (by omega)]
      simp only [Option.bind_some, t1]
      rw [if_neg (by omega), if_pos (by omega)]
      simp only [Nat.zero_add, Option.some.injEq, AVal.sl.injEq, true_and, and_true]; omega
    have hdrop : (LL.drop ((i + 1) * 3)).take ((K - i) * 3) = M := by rw [dC]; exact List.take_left' hM
    obtain ⟨Z', z1, z2⟩ := zer (H.set w (.cells (placeA LL (i * 3) M) 39 3 .elastic)) (placeA LL (i * 3) M) (by rw [AHeap.get_set, if_pos rfl]) (by simp [placeA]; omega) (by
      have e : LL.take (i * 3) = A := by rw [← hLL]; simp only [List.append_assoc]; exact List.take_left' hA
      simp only [placeA, e]; exact List.take_left' hAM)
    have f4 : appendA H 39 3 40 (.sl w 0 i none) (.sl w ((i + 1) * 3) (K - i) none) = some (.sl w 0 K none, H.set w (.cells (placeA LL (i * 3) M) 39 3 .elastic)) := by
      have e1 : (i + 1) * 3 + (K - i) * 3 ≤ LL.length := by omega
      have e2 : (i + (K - i)) * 3 ≤ LL.length := by omega
      have e3 : ¬ K - i = 0 := by omega
      have e4 : i + (K - i) = K := by omega
      have e5 : K * 3 ≤ LL.length := by omega
      have st := store_el (o := i * 3) (vs := M) hW (by omega) hMc
      have hMc' := List.all_eq_true.1 hMc
      simp [appendA, lenA, srcCells, hW, roomA, hdrop, hM, hMc, e1, e2, e3, e4, e5, st]
      exact hMc'
    refine ⟨(H.set w (.cells (placeA LL (i * 3) M) 39 3 .elastic)).set w (.cells (A ++ M ++ Z') 39 3 .elastic), Z', ?_, by simp, fun z h => by rw [AHeap.get_set, if_neg h, AHeap.get_set, if_neg h], by rw [AHeap.get_set, if_pos rfl]⟩
    generalize placeA LL (i * 3) M = LP at *
    generalize hAMe : A ++ M ++ Z' = AMZ at *
    unfold c29
    simp (maxSteps := 10000000) +contextual [go_sem, hW, lw, f1, f2, f3, f4, z1, z2, dne]
theorem lookq_ok {H : AHeap} {q N w b i : Nat} {u0 u1 u2 u3 u4 u5 u6 u7 u8 : Bool} {lost f t : Int} {L : List AVal} {x y : AVal} (lq : q < H.n) (hq : H.get q = .cells (nbq u0 u1 u2 u3 u4 u5 u6 u7 u8 (.sl w 0 N none) lost) 56 12 .fixed) (hi : i < N) (lw : w < H.n) (hW : H.get w = .cells L 39 3 .elastic) (hL : i * 3 + 3 ≤ L.length) (h3 : (L.drop (i * 3)).take 3 = [.int .i64 f, .int .i64 t, .sl b 0 2 none]) (lb : b < H.n) (hb : H.get b = .cells [x, y] 5 1 .elastic) (hx : x.isCell = true) (hy : y.isCell = true) :
    ∃ H', denF Ω1 none2 c18 [.ptr q 0, .int .i64 i] H = some (.tup [.agg [.int .i64 f, .int .i64 t, .sl (H.n + 4) 0 2 none], .int .i64 0], H') ∧ H'.n = H.n + 5 ∧ (∀ z, z < H.n → H'.get z = H.get z) ∧ H'.get (H.n + 4) = .cells [x, y] 5 1 .elastic := by
  have hlen : lenK (some (.sl w 0 N none)) = some (.int .i64 N) := rfl
  have hq1 : (H.push (.cells [.int .i64 0, .int .i64 0, .nils] 39 3 .fixed)).get q = .cells (nbq u0 u1 u2 u3 u4 u5 u6 u7 u8 (.sl w 0 N none) lost) 56 12 .fixed := by rw [AHeap.get_push, if_neg (by omega)]; exact hq
  have ha := atq_ok (by simp; omega) hq1 hlen hi
  obtain ⟨H1, e1, n1, z1, g1⟩ := copied2 (H := H.push (.cells [.int .i64 0, .int .i64 0, .nils] 39 3 .fixed)) (f := f) (t := t) (c := none) (b := b) (by rw [AHeap.get_push, if_neg (by omega)]; exact hb) (by simp; omega) hx hy
  simp only [AHeap.n_push] at e1 n1 z1 g1
  have gz : H1.get H.n = .cells [.int .i64 0, .int .i64 0, .nils] 39 3 .fixed := by rw [z1 _ (by omega), AHeap.get_push, if_pos rfl]
  have zz : ∀ z, z < H.n → H1.get z = H.get z := fun z h => by rw [z1 z (by omega), AHeap.get_push, if_neg (by omega)]
  rw [show H.n + 1 + 3 = H.n + 4 by omega] at e1 g1
  refine ⟨H1.set H.n (.cells [.int .i64 f, .int .i64 t, .sl (H.n + 4) 0 2 none] 39 3 .fixed), ?_, by simpa using n1, fun z h => by rw [AHeap.get_set, if_neg (by omega)]; exact zz z h, by rw [AHeap.get_set, if_neg (by omega)]; exact g1⟩
  have d1 : ¬ q = H.n := by omega
  have d2 : ¬ w = H.n := by omega
  have d3 : (i : Int) < (N : Int) := by omega
  have d5 : H.n < H1.n := by omega
  unfold nbq at hq
  unfold c18
  simp (maxSteps := 10000000) +contextual [go_sem, hq, lq, hW, lw, o1_31, o1_28, ha, e1, gz, d1, d2, d3, d5, hi, hL, h3]
theorem deliverq_bad {H : AHeap} {q : Nat} {u0 u1 u2 u3 u4 u5 u6 u7 u8 : Bool} {way : AVal} {lost : Int} (lq : q < H.n) (hq : H.get q = .cells (nbq u0 u1 u2 u3 u4 u5 u6 u7 u8 way lost) 56 12 .fixed) {N : Nat} {i : Int} (hlen : lenK (some way) = some (.int .i64 N)) (hi : i < 0 ∨ (N : Int) ≤ i) : ∃ H', denF Ω6 none2 c16 [.ptr q 0, .int .i64 i] H = some (.tup [.agg [.int .i64 0, .int .i64 0, .nils], .int .i64 5], H') ∧ H.n ≤ H'.n ∧ (∀ z, z < H.n → H'.get z = H.get z) := by
  have e0 : ∀ z, z < H.n → (H.push (.cells [.int .i64 0, .int .i64 0, .nils] 39 3 .fixed)).get z = H.get z := fun z h => by rw [AHeap.get_push, if_neg (by omega)]
  obtain ⟨H1, e1, n1, z1⟩ := lookq_bad (H := H.push (.cells [.int .i64 0, .int .i64 0, .nils] 39 3 .fixed)) (by simp; omega) ((e0 q lq).trans hq) hlen hi
  simp only [AHeap.n_push] at n1 z1
  have g0 : H1.get H.n = .cells [.int .i64 0, .int .i64 0, .nils] 39 3 .fixed := by rw [z1 _ (by omega), AHeap.get_push, if_pos rfl]
  refine ⟨((H1.push (.cells [.int .i64 0, .int .i64 0, .nils] 39 3 .fixed)).set H1.n (.cells [.int .i64 0, .int .i64 0, .nils] 39 3 .fixed)).set H.n (.cells [.int .i64 0, .int .i64 0, .nils] 39 3 .fixed), ?_, by simp; omega, fun z h => by rw [AHeap.get_set, if_neg (by omega), AHeap.get_set, if_neg (by omega), AHeap.get_push, if_neg (by omega), z1 z (by omega), e0 z h]⟩
  have d1 : H1.n = H.n + 1 + 1 := n1
  have d2 : ¬ H.n = H.n + 1 + 1 := by omega
  unfold c16
  simp (maxSteps := 10000000) +contextual [go_sem, o6_18, e1, g0, d1, d2]
theorem deliverq_ok {H : AHeap} {q : Nat} {u0 u1 u2 u3 u4 u5 u6 u7 u8 : Bool} {way : AVal} {lost : Int} {A B : List Pq} {p : Pq} (lq : q < H.n) (hq : H.get q = .cells (nbq u0 u1 u2 u3 u4 u5 u6 u7 u8 way lost) 56 12 .fixed) (hw : WayQ H way (A ++ p :: B)) (hp : PqB H p) (hN : A.length + B.length ≤ 200) :
    ∃ H' way' nb, denF Ω6 none2 c16 [.ptr q 0, .int .i64 A.length] H = some (.tup [.agg [.int .i64 p.f, .int .i64 p.t, .sl nb 0 2 none], .int .i64 0], H') ∧ nb < H'.n ∧ H'.get nb = .cells [.int .u8 p.s, .int .u8 p.f] 5 1 .elastic ∧ H'.get q = .cells (nbq u0 u1 u2 u3 u4 u5 u6 u7 u8 way' lost) 56 12 .fixed ∧ WayQ H' way' (A ++ B) ∧ FrQ H H' q := by
  obtain ⟨lb, hb⟩ := hp
  rcases hw with ⟨h, _⟩ | ⟨w, Z, rfl, lw, hW⟩
  · simp at h
  have hlen : (A ++ p :: B).length = (A.length + B.length) + 1 := by simp; omega
  rw [hlen] at hq
  have hLA := flatQ_len A
  have hLB := flatQ_len B
  have hflat : flatQ (A ++ p :: B) ++ Z = flatQ A ++ [.int .i64 p.f, .int .i64 p.t, .sl p.b 0 2 none] ++ flatQ B ++ Z := by simp [flatQ_app, flatQ]
  rw [hflat] at hW
  have e0 : ∀ z, z < H.n → (H.push (.cells [.int .i64 0, .int .i64 0, .nils] 39 3 .fixed)).get z = H.get z := fun z h => by rw [AHeap.get_push, if_neg (by omega)]
  obtain ⟨H1, e1, n1, z1, g1⟩ := lookq_ok (i := A.length) (f := p.f) (t := p.t) (b := p.b) (H := H.push (.cells [.int .i64 0, .int .i64 0, .nils] 39 3 .fixed)) (by simp; omega) ((e0 q lq).trans hq) (by omega) (by simp; omega) ((e0 w lw).trans hW) (by simp only [List.length_append, hLA, hLB, List.length_cons, List.length_nil]; omega) (by
    simp only [List.append_assoc]
    rw [List.drop_left' hLA]; simp) (by simp; omega) ((e0 p.b lb).trans hb) rfl rfl
  simp only [AHeap.n_push] at e1 n1 z1 g1
  have z1' : ∀ z, z < H.n → H1.get z = H.get z := fun z h => (z1 z (by omega)).trans (e0 z h)
  obtain ⟨G, hG⟩ : ∃ G, G = (H1.push (.cells [.int .i64 0, .int .i64 0, .nils] 39 3 .fixed)).set H1.n (.cells [.int .i64 p.f, .int .i64 p.t, .sl (H.n + 1 + 4) 0 2 none] 39 3 .fixed) := ⟨_, rfl⟩
  have Gn : G.n = H.n + 7 := by rw [hG]; simp [n1]
  have Gz : ∀ z, z < H1.n → G.get z = H1.get z := fun z h => by rw [hG, AHeap.get_set, if_neg (by omega), AHeap.get_push, if_neg (by omega)]
  have Gz' : ∀ z, z < H.n → G.get z = H.get z := fun z h => (Gz z (by omega)).trans (z1' z h)
  have Gp : G.get (H.n + 6) = .cells [.int .i64 p.f, .int .i64 p.t, .sl (H.n + 1 + 4) 0 2 none] 39 3 .fixed := by
    have : H.n + 6 = H1.n := by omega
    rw [hG, this, AHeap.get_set, if_pos rfl]
  have G0 : G.get H.n = .cells [.int .i64 0, .int .i64 0, .nils] 39 3 .fixed := by rw [Gz _ (by omega), z1 _ (by omega), AHeap.get_push, if_pos rfl]
  obtain ⟨G2, Z', e2, n2, z2, g2⟩ := deleteq (H := G) (w := w) (K := A.length + B.length) (i := A.length) (A := flatQ A) (C := [.int .i64 p.f, .int .i64 p.t, .sl p.b 0 2 none]) (M := flatQ B) (Z := Z) ((Gz' w lw).trans hW) (by omega) hLA rfl (by omega) (by rw [hLB]; congr 1; omega) (flatQ_cell B) (by omega)
  have hqw : q ≠ w := ne_get hq hW (by simp)
  have q2 : G2.get q = _ := (z2 q hqw).trans ((Gz' q lq).trans hq)
  have p2 : G2.get (H.n + 6) = _ := (z2 _ (by omega)).trans Gp
  have o2 : G2.get H.n = _ := (z2 _ (by omega)).trans G0
  have b2 : G2.get (H.n + 1 + 4) = .cells [.int .u8 p.s, .int .u8 p.f] 5 1 .elastic := (z2 _ (by omega)).trans ((Gz _ (by omega)).trans g1)
  refine ⟨(G2.set q (.cells (nbq u0 u1 u2 u3 u4 u5 u6 u7 u8 (.sl w 0 (A.length + B.length) none) lost) 56 12 .fixed)).set H.n (.cells [.int .i64 p.f, .int .i64 p.t, .sl (H.n + 1 + 4) 0 2 none] 39 3 .fixed), .sl w 0 (A.length + B.length) none, H.n + 1 + 4, ?_, by simp; omega, by rw [AHeap.get_set, if_neg (by omega), AHeap.get_set, if_neg (by omega)]; exact b2, by rw [AHeap.get_set, if_neg (by omega), AHeap.get_set, if_pos rfl], .inr ⟨w, Z', by simp, by simp; omega, by rw [AHeap.get_set, if_neg (by omega), AHeap.get_set, if_neg (Ne.symm hqw), flatQ_app]; exact g2⟩, by simp; omega, fun z hz h1 h2 => by rw [AHeap.get_set, if_neg (by omega), AHeap.get_set, if_neg h1, z2 z (fun e => h2 _ (by rw [e]; exact hW))]; exact Gz' z hz⟩
  have d1 : H1.n = H.n + 6 := by omega
  have d2 : G2.n = H.n + 7 := by omega
  have d3 : ¬ q = H.n := by omega
  have d4 : ¬ H.n = q := by omega
  have d5 : ¬ q = H.n + 6 := by omega
  have d6 : ¬ H.n + 6 = q := by omega
  have hw1 : IntKind.i64.wrap ((A.length : Int) + 1) = (A.length : Int) + 1 := by rw [IntKind.wrap_i64]; omega
  have q1 := (z1' q lq).trans hq
  rw [hG, d1] at e2
  unfold nbq at hq q1 q2 ⊢
  unfold c16
  simp (maxSteps := 10000000) +contextual [go_sem, o6_18, o6_29, e1, e2, d1, d2, d3, d4, d5, d6, hw1, q1, q2, p2, o2]
def Ω7 : Phi := updP none2 16 (denF Ω6 none2 c16)
theorem o7_16 (l : List AVal) (H : AHeap) : Ω7 16 l H = denF Ω6 none2 c16 l H := (rfl)
end Go.Eng.SeatC

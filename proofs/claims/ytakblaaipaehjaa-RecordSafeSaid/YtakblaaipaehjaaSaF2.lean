/- Layer 17: RecordSafe. -/
import Derived.Test.YtakblaaipaehjaaSaE2
import Derived.Test.YtakblaaipaehjaaEngLeafK
set_option linter.unusedSimpArgs false
set_option linter.unusedVariables false
set_option maxHeartbeats 40000000
namespace Go.Eng.SeatA
open Go.Proofs
theorem kindR_of (kd : Int) : kindR kd = 0 ∨ kindR kd = 1 ∨ kindR kd = 2 ∨ kindR kd = 3 ∨ kindR kd = 4 ∨ kindR kd = 5 := by
  unfold kindR
  have h1 := Int.tmod_lt_of_pos kd (show (0 : Int) < 6 by omega)
  have h2 : -6 < kd.tmod 6 := Int.lt_tmod_of_pos kd (by omega)
  have h3 : IntKind.i64.wrap (kd.tmod 6 + 6) = kd.tmod 6 + 6 := by rw [IntKind.wrap_i64]; omega
  rw [h3]
  have h4 := Int.tmod_lt_of_pos (kd.tmod 6 + 6) (show (0 : Int) < 6 by omega)
  have h5 : 0 ≤ (kd.tmod 6 + 6).tmod 6 := Int.tmod_nonneg 6 (by omega)
  omega
theorem votR_of (vt : Int) : votR vt = 0 ∨ votR vt = 1 ∨ votR vt = 2 := by
  unfold votR
  have h1 := Int.tmod_lt_of_pos vt (show (0 : Int) < 3 by omega)
  have h2 : -3 < vt.tmod 3 := Int.lt_tmod_of_pos vt (by omega)
  have h3 : IntKind.i64.wrap (vt.tmod 3 + 3) = vt.tmod 3 + 3 := by rw [IntKind.wrap_i64]; omega
  rw [h3]
  have h4 := Int.tmod_lt_of_pos (vt.tmod 3 + 3) (show (0 : Int) < 3 by omega)
  have h5 : 0 ≤ (vt.tmod 3 + 3).tmod 3 := Int.tmod_nonneg 3 (by omega)
  omega
theorem check_ok {t n s : Int} (ht : 0 ≤ t ∧ t ≤ 1000) (hn : 0 ≤ n ∧ n ≤ 1000) (hs : 1 ≤ s ∧ s ≤ 3) : checkL t n s = 0 := by
  unfold checkL
  rw [if_pos ⟨by simp [mayL]; omega, by simp [mayL]; omega, hs.1, hs.2⟩]
theorem next_new {t n s tm : Int} (ht : 0 ≤ t ∧ t ≤ tm) (htm : tm ≤ 200) (hn : 0 ≤ n ∧ n ≤ 200) (hs : 1 ≤ s ∧ s ≤ 3) : nextV t n s (tm + 1) s = (tm + 1, 0, s, 0) := by
  unfold nextV
  rw [if_pos ⟨check_ok (by omega) (by omega) hs, hs.1, hs.2, by simp [mayL]; omega⟩, if_neg (by omega), if_neg (by omega)]
theorem next_same {n s tm k : Int} (ht : 0 ≤ tm ∧ tm ≤ 200) (hn : 0 ≤ n ∧ n ≤ 200) (hs : 1 ≤ s ∧ s ≤ 3) (hk : 1 ≤ k ∧ k ≤ 3) : nextV tm n s tm k = (tm, n + 1, k, 0) := by
  unfold nextV
  rw [if_pos ⟨check_ok (by omega) (by omega) hs, hk.1, hk.2, by simp [mayL]; omega⟩, if_neg (by omega), if_pos rfl]
/-- Whatever happens, the invariant holds behind it. -/
theorem stepW {H : AHeap} {q : Nat} {kd nd vt : Int} {t0 n0 s0 t1 n1 s1 t2 n2 s2 p tm : Int} {h0 h1 nt sm : Bool} {i : Nat} (lq : q < H.n) (hW : H.get q = .cells (wcs t0 n0 s0 t1 n1 s1 t2 n2 s2 h0 h1 p tm nt sm) 66 15 .fixed) (J : InvR t0 n0 s0 t1 n1 s1 t2 n2 s2 h0 h1 p tm nt sm i) (hi : i < 200) :
    ∃ t0' n0' s0' t1' n1' s1' t2' n2' s2' h0' h1' p' tm' nt' sm', InvR t0' n0' s0' t1' n1' s1' t2' n2' s2' h0' h1' p' tm' nt' sm' (i + 1) ∧ DoneW H q kd nd vt (wcs t0' n0' s0' t1' n1' s1' t2' n2' s2' h0' h1' p' tm' nt' sm') := by
  have R0 := J.r0
  have R1 := J.r1
  have R2 := J.r2
  have RT := J.rt
  have ht : IntKind.i64.wrap (tm + 1) = tm + 1 := by rw [IntKind.wrap_i64]; omega
  have same : DoneW H q kd nd vt (wcs t0 n0 s0 t1 n1 s1 t2 n2 s2 h0 h1 p tm nt sm) → ∃ t0' n0' s0' t1' n1' s1' t2' n2' s2' h0' h1' p' tm' nt' sm', InvR t0' n0' s0' t1' n1' s1' t2' n2' s2' h0' h1' p' tm' nt' sm' (i + 1) ∧ DoneW H q kd nd vt (wcs t0' n0' s0' t1' n1' s1' t2' n2' s2' h0' h1' p' tm' nt' sm') := fun h =>
    ⟨_, _, _, _, _, _, _, _, _, _, _, _, _, _, _, J.next hi, h⟩
  have hv := votR_of vt
  rcases kindR_of kd with hk | hk | hk | hk | hk | hk
  · rcases (show nd % 2 = 0 ∨ nd % 2 = 1 by omega) with hn | hn
    · rcases hv with hv | hv | hv
      · exact same (w0_0_self lq hW hk hn hv)
      · cases hm : mayR t0 n0 s0 0 t1 n1 s1 with
        | false => exact same (w0_01_no lq hW hk hn hv hm)
        | true =>
          obtain ⟨hh, J'⟩ := J.elect01 hi hm
          exact ⟨_, _, _, _, _, _, _, _, _, _, _, _, _, _, _, J', w0_01_yes lq hW hk hn hv hm hh ht (next_new (by omega) (by omega) (by omega) (by omega))⟩
      · cases hm : mayR t0 n0 s0 0 t2 n2 s2 with
        | false => exact same (w0_02_no lq hW hk hn hv hm)
        | true =>
          obtain ⟨hh, J'⟩ := J.elect02 hi hm
          exact ⟨_, _, _, _, _, _, _, _, _, _, _, _, _, _, _, J', w0_02_yes lq hW hk hn hv hm hh ht (next_new (by omega) (by omega) (by omega) (by omega))⟩
    · rcases hv with hv | hv | hv
      · cases hm : mayR t1 n1 s1 1 t0 n0 s0 with
        | false => exact same (w0_10_no lq hW hk hn hv hm)
        | true =>
          obtain ⟨hh, J'⟩ := J.elect10 hi hm
          exact ⟨_, _, _, _, _, _, _, _, _, _, _, _, _, _, _, J', w0_10_yes lq hW hk hn hv hm hh ht (next_new (by omega) (by omega) (by omega) (by omega))⟩
      · exact same (w0_1_self lq hW hk hn hv)
      · cases hm : mayR t1 n1 s1 1 t2 n2 s2 with
        | false => exact same (w0_12_no lq hW hk hn hv hm)
        | true =>
          obtain ⟨hh, J'⟩ := J.elect12 hi hm
          exact ⟨_, _, _, _, _, _, _, _, _, _, _, _, _, _, _, J', w0_12_yes lq hW hk hn hv hm hh ht (next_new (by omega) (by omega) (by omega) (by omega))⟩
  · rcases (show p = -1 ∨ p = 0 ∨ p = 1 by have := J.rp; omega) with rfl | rfl | rfl
    · exact same (w1_none lq hW hk)
    · rcases hv with hv | hv | hv
      · exact same (w1_0_self lq hW hk hv)
      · cases hm : newerL t0 n0 t1 n1 with
        | true => exact ⟨_, _, _, _, _, _, _, _, _, _, _, _, _, _, _, J.note01 hi, w1_01_new lq hW hk hv hm⟩
        | false => exact ⟨_, _, _, _, _, _, _, _, _, _, _, _, _, _, _, J.same01 hi (fun h => by simpa using h), w1_01_old lq hW hk hv hm⟩
      · cases hm : newerL t0 n0 t2 n2 with
        | true => exact ⟨_, _, _, _, _, _, _, _, _, _, _, _, _, _, _, J.note02 hi, w1_02_new lq hW hk hv hm⟩
        | false => exact ⟨_, _, _, _, _, _, _, _, _, _, _, _, _, _, _, J.same02 hi (fun h => by simpa using h), w1_02_old lq hW hk hv hm⟩
    · rcases hv with hv | hv | hv
      · cases hm : newerL t1 n1 t0 n0 with
        | true => exact ⟨_, _, _, _, _, _, _, _, _, _, _, _, _, _, _, J.note10 hi, w1_10_new lq hW hk hv hm⟩
        | false => exact ⟨_, _, _, _, _, _, _, _, _, _, _, _, _, _, _, J.same10 hi (fun h => by simpa using h), w1_10_old lq hW hk hv hm⟩
      · exact same (w1_1_self lq hW hk hv)
      · cases hm : newerL t1 n1 t2 n2 with
        | true => exact ⟨_, _, _, _, _, _, _, _, _, _, _, _, _, _, _, J.note12 hi, w1_12_new lq hW hk hv hm⟩
        | false => exact ⟨_, _, _, _, _, _, _, _, _, _, _, _, _, _, _, J.same12 hi (fun h => by simpa using h), w1_12_old lq hW hk hv hm⟩
  · rcases (show p = -1 ∨ p = 0 ∨ p = 1 by have := J.rp; omega) with rfl | rfl | rfl
    · exact same (w2_none lq hW hk)
    · cases hn : nt with
      | false => subst hn; exact same (w2_0_no1 lq hW hk rfl)
      | true =>
        subst hn
        by_cases hs : s0 = 1
        · exact ⟨_, _, _, _, _, _, _, _, _, _, _, _, _, _, _, J.alone0 hi rfl hs, w2_0_yes lq hW hk rfl hs⟩
        · exact same (w2_0_no2 lq hW hk hs)
    · cases hn : nt with
      | false => subst hn; exact same (w2_1_no1 lq hW hk rfl)
      | true =>
        subst hn
        by_cases hs : s1 = 2
        · exact ⟨_, _, _, _, _, _, _, _, _, _, _, _, _, _, _, J.alone1 hi rfl hs, w2_1_yes lq hW hk rfl hs⟩
        · exact same (w2_1_no2 lq hW hk hs)
  · rcases (show p = -1 ∨ p = 0 ∨ p = 1 by have := J.rp; omega) with rfl | rfl | rfl
    · exact same (w3_none lq hW hk)
    · obtain ⟨hh, J'⟩ := J.take0 hi
      have w := w3_0 lq hW hk (nd := nd) (vt := vt)
      rw [hh] at w
      exact ⟨_, _, _, _, _, _, _, _, _, _, _, _, _, _, _, J', w⟩
    · obtain ⟨hh, J'⟩ := J.take1 hi
      have w := w3_1 lq hW hk (nd := nd) (vt := vt)
      rw [hh] at w
      exact ⟨_, _, _, _, _, _, _, _, _, _, _, _, _, _, _, J', w⟩
  · rcases (show p = -1 ∨ p = 0 ∨ p = 1 by have := J.rp; omega) with rfl | rfl | rfl
    · exact same (w4_none lq hW hk)
    · by_cases hs : s0 = 3
      · have e := (J.P0 rfl).1
        subst e
        exact ⟨_, _, _, _, _, _, _, _, _, _, _, _, _, _, _, J.one0 hi hs, w4_0_yes lq hW hk hs (next_same (by omega) (by omega) (by omega) (by omega))⟩
      · exact same (w4_0_no lq hW hk hs)
    · by_cases hs : s1 = 3
      · have e := (J.P1 rfl).1
        subst e
        exact ⟨_, _, _, _, _, _, _, _, _, _, _, _, _, _, _, J.one1 hi hs, w4_1_yes lq hW hk hs (next_same (by omega) (by omega) (by omega) (by omega))⟩
      · exact same (w4_1_no lq hW hk hs)
  · rcases (show p = -1 ∨ p = 0 ∨ p = 1 by have := J.rp; omega) with rfl | rfl | rfl
    · exact same (w5_none lq hW hk)
    · by_cases hs : s0 = 3
      · exact same (w5_0_no1 lq hW hk hs)
      · cases hm : sm with
        | false => subst hm; exact same (w5_0_no2 lq hW hk hs rfl)
        | true =>
          subst hm
          have e := (J.P0 rfl).1
          subst e
          exact ⟨_, _, _, _, _, _, _, _, _, _, _, _, _, _, _, J.two0 hi rfl, w5_0_yes lq hW hk hs rfl (next_same (by omega) (by omega) (by omega) (by omega))⟩
    · by_cases hs : s1 = 3
      · exact same (w5_1_no1 lq hW hk hs)
      · cases hm : sm with
        | false => subst hm; exact same (w5_1_no2 lq hW hk hs rfl)
        | true =>
          subst hm
          have e := (J.P1 rfl).1
          subst e
          exact ⟨_, _, _, _, _, _, _, _, _, _, _, _, _, _, _, J.two1 hi rfl, w5_1_yes lq hW hk hs rfl (next_same (by omega) (by omega) (by omega) (by omega))⟩
structure Act3 where
  kd : Int
  nd : Int
  vt : Int
def Act3.cs (x : Act3) : List AVal := [.int .i64 x.kd, .int .i64 x.nd, .int .i64 x.vt]
def Acts3 (H : AHeap) (b o n : Nat) (f : Nat → Act3) : Prop := ∃ L e es md, H.get b = .cells L e es md ∧ o + n * 3 ≤ L.length ∧ ∀ i, i < n → (L.drop (o + i * 3)).take 3 = (f i).cs
theorem Acts3.mono {H H' : AHeap} {b o n : Nat} {f : Nat → Act3} (h : Acts3 H b o n f) (e : H'.get b = H.get b) : Acts3 H' b o n f := by
  obtain ⟨L, t, es, md, h1, h2⟩ := h
  exact ⟨L, t, es, md, by rw [e]; exact h1, h2⟩
def Ψ8 : Phi := updP Ψ7 39 (denF Ψ7 none2 c39)
theorem oq8 : ∀ f, Sound Try.prog f (Ψ8 f) := updP_ok oq7 (fun_sound oq7 none_soundD mixed Try.func39 cal39 comp39)
theorem q8_39 (l : List AVal) (H : AHeap) : Ψ8 39 l H = denF Ψ7 none2 c39 l H := (rfl)
theorem q8_11 (l : List AVal) (H : AHeap) : Ψ8 11 l H = pspec r23 l H := (rfl)
theorem q8_38 (l : List AVal) (H : AHeap) : Ψ8 38 l H = pspec r38 l H := (rfl)
theorem lastS {H : AHeap} {b o n q : Nat} {c : Option Nat} :
    aden Ψ8 b14_0 ⟨[(0, .sl b o n c), (3, .bool true), (5, .ptr q 0), (6, .int .i64 n)], H, []⟩ = some (.exit 0, ⟨[(0, .sl b o n c), (3, .bool true), (5, .ptr q 0), (6, .int .i64 n), (23, .bool false)], H, []⟩) := by
  unfold b14_0
  simp (maxSteps := 10000000) +contextual [go_sem]
theorem loopS {b o n : Nat} {c : Option Nat} {f : Nat → Act3} {q : Nat} (bq : b ≠ q) (hn : n ≤ 200) : ∀ (j i : Nat), i + j = n → ∀ {H : AHeap} {t0 n0 s0 t1 n1 s1 t2 n2 s2 p tm : Int} {h0 h1 nt sm : Bool}, Acts3 H b o n f → b < H.n → q < H.n → H.get q = .cells (wcs t0 n0 s0 t1 n1 s1 t2 n2 s2 h0 h1 p tm nt sm) 66 15 .fixed → InvR t0 n0 s0 t1 n1 s1 t2 n2 s2 h0 h1 p tm nt sm i →
    ∃ H', iter (aden Ψ8 b14_0) (j + 1) ⟨[(0, .sl b o n c), (3, .bool true), (5, .ptr q 0), (6, .int .i64 i)], H, []⟩ = some (.exit 0, ⟨[(0, .sl b o n c), (3, .bool true), (5, .ptr q 0), (6, .int .i64 n), (23, .bool false)], H', []⟩) := by
  intro j
  induction j with
  | zero =>
    intro i hi H t0 n0 s0 t1 n1 s1 t2 n2 s2 p tm h0 h1 nt sm hM hb lq hW J
    have hi' : i = n := by omega
    subst hi'
    exact ⟨H, by rw [iter_succ, lastS]; rfl⟩
  | succ j ih =>
    intro i hi H t0 n0 s0 t1 n1 s1 t2 n2 s2 p tm h0 h1 nt sm hM hb lq hW J
    obtain ⟨u0, u1, u2, u3, u4, u5, u6, u7, u8, g0, g1, p', tm', nt', sm', J', H1, e1, n1', fr, hW'⟩ := stepW (kd := (f i).kd) (nd := (f i).nd) (vt := (f i).vt) lq hW J (by omega)
    obtain ⟨H2, h2⟩ := ih (i + 1) (by omega) (hM.mono (fr b hb bq)) (by omega) (by omega) hW' J'
    refine ⟨H2, ?_⟩
    obtain ⟨L, e, es, md, hg, hL, hf⟩ := hM
    have hx := hf i (by omega)
    have hle : o + i * 3 + 3 ≤ L.length := by omega
    have hw : IntKind.i64.wrap ((i : Int) + 1) = ((i : Int) + 1) := by rw [IntKind.wrap_i64]; omega
    have hlt : (i : Int) < (n : Int) := by omega
    have hin : i < n := by omega
    have hs : aden Ψ8 b14_0 ⟨[(0, .sl b o n c), (3, .bool true), (5, .ptr q 0), (6, .int .i64 i)], H, []⟩ = some (.normal, ⟨[(0, .sl b o n c), (3, .bool true), (5, .ptr q 0), (6, .int .i64 (i + 1 : Nat))], H1, []⟩) := by
      unfold Act3.cs at hx
      unfold b14_0
      simp (maxSteps := 10000000) +contextual [go_sem, hg, hin, hlt, hx, hle, hw, q8_39, e1]
    rw [iter_succ, hs, iterK_n]; exact h2
theorem law14 {H : AHeap} {b o n : Nat} {c : Option Nat} {f : Nat → Act3} (hM : Acts3 H b o n f) (hb : b < H.n) : ∃ H', denF Ψ8 none2 c14 [.sl b o n c] H = some (.bool true, H') := by
  by_cases hn : (200 : Int) < n
  · refine ⟨H, ?_⟩
    unfold c14
    simp (maxSteps := 10000000) +contextual [go_sem, q8_11, r23, hn]
  · obtain ⟨G, hG⟩ : ∃ G, G = ((H.push (.cells [.int .i64 0, .int .i64 0, .int .i64 0] 48 3 .fixed)).set H.n (.cells [.int .i64 0, .int .i64 0, .int .i64 3] 48 3 .fixed)).push (.cells (wcs 0 0 3 0 0 3 0 0 3 true true (-1) 0 false false) 66 15 .fixed) := ⟨_, rfl⟩
    have gn : G.n = H.n + 1 + 1 := by rw [hG]; simp
    have n1 : ¬ b = H.n := by omega
    have n2 : ¬ b = H.n + 1 := by omega
    have gb : G.get b = H.get b := by rw [hG]; simp [AHeap.get_push, AHeap.get_set, n1, n2]
    have gq : G.get (H.n + 1) = .cells (wcs 0 0 3 0 0 3 0 0 3 true true (-1) 0 false false) 66 15 .fixed := by rw [hG]; simp [AHeap.get_push]
    obtain ⟨H', h⟩ := loopS (c := c) (show b ≠ H.n + 1 by omega) (show n ≤ 200 by omega) n 0 (by omega) (hM.mono gb) (by omega) (by omega) gq ⟨by omega, by omega, by omega, by omega, by omega, by omega, by omega, by simp, by simp, by simp, by simp⟩
    have h := iter_mono h (show n + 1 ≤ fuel by unfold fuel; omega)
    rw [show ((0 : Nat) : Int) = 0 from rfl, hG] at h
    unfold wcs at h
    refine ⟨H', ?_⟩
    unfold c14
    simp (maxSteps := 10000000) +contextual [go_sem, q8_11, q8_38, r23, r38, hn, h]
theorem law14n {H : AHeap} : ∃ H', denF Ψ8 none2 c14 [.nils] H = some (.bool true, H') := by
  have h : ∀ G q, iter (aden Ψ8 b14_0) (0 + 1) ⟨[(0, .nils), (3, .bool true), (5, .ptr q 0), (6, .int .i64 0)], G, []⟩ = some (.exit 0, ⟨[(0, .nils), (3, .bool true), (5, .ptr q 0), (6, .int .i64 0), (23, .bool false)], G, []⟩) := by
    intro G q
    rw [iter_succ]
    unfold b14_0
    simp (maxSteps := 10000000) +contextual [go_sem]
  have h := fun G q => iter_mono (h G q) (show 0 + 1 ≤ fuel by unfold fuel; omega)
  unfold c14
  simp (maxSteps := 10000000) +contextual [go_sem, q8_11, q8_38, r23, r38, h]
theorem s14 : Sound Try.prog 14 (denF Ψ8 none2 c14) := fun_sound oq8 none_soundD mixed Try.func14 cal14 comp14
section
open Go.ChangeShapes Go.WideShapes Go.ChangeAt Go.RowKit
def act3LK : List LK := List.replicate 3 (.int .i64)
theorem fit_act3 {vs : List Value} (h : fitK act3LK vs) : ∃ x : Act3, vs.map av0 = x.cs := by
  obtain ⟨xs, hx, _⟩ := fit_ints 3 vs h
  have e := intsOf_eq hx
  have hl : xs.length = 3 := by
    have := congrArg List.length e
    have h2 := fitK_length h
    simp [act3LK] at this h2; omega
  match xs, hl with
  | [a, b, c], _ => exact ⟨⟨a, b, c⟩, by rw [e]; rfl⟩
theorem acts3_of {H : Type} {enc : TypeId × Value → H} {P : Program} {W : World} {r : Reach} {base : Nat} {t e : TypeId} {v : Value} {d : DataW H} {p : List MemPlace} {n : Nat} (ht : P.underlying t = some (.slice e)) (he : leaves P n e = some act3LK) (hk : P.cellsOf e = 3) (hv : Value.okWide P W r base t v)
    (hA : DataW.Trod enc P W 0 (fun _ => true) true t v d p) : avv W.heap.size v = .nils ∨ ∃ (b o len cap : Nat) (f : Nat → Act3), avv W.heap.size v = .sl b o len (some cap) ∧ b < (heapOf W).n ∧ Acts3 (heapOf W) b o len f := by
  rcases slice_cells ht he hk rfl hv hA with h | ⟨b, o, len, cap, L, te, g, h, hb, hl, hg, hle, hc⟩
  · exact .inl h
  · refine .inr ⟨b, o, len, cap, fun i => if hi : i < len then Classical.choose (fit_act3 (hc i hi).2) else ⟨0, 0, 0⟩, h, hb, L, te, 1, .ro, hg, hle, fun i hi => ?_⟩
    simp only [dif_pos hi]
    exact (hc i hi).1.trans (Classical.choose_spec (fit_act3 (hc i hi).2))
end
end Go.Eng.SeatA

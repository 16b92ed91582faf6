/- Layer 14: NetKeeps, the calls for any links, and what was sent. -/
import Derived.Test.YtgmaknppneonfaaScR
set_option linter.unusedSimpArgs false
set_option linter.unusedVariables false
set_option maxHeartbeats 40000000
namespace Go.Eng.SeatC
open Go.Proofs
def NetQ (H : AHeap) (q : Nat) (way : AVal) (lost : Int) : Prop := q < H.n ∧ ∃ u0 u1 u2 u3 u4 u5 u6 u7 u8, H.get q = .cells (nbq u0 u1 u2 u3 u4 u5 u6 u7 u8 way lost) 56 12 .fixed
theorem linkL_cases {f t : Int} (h : linkL f t = true) : (f = 0 ∧ t = 1) ∨ (f = 0 ∧ t = 2) ∨ (f = 1 ∧ t = 0) ∨ (f = 1 ∧ t = 2) ∨ (f = 2 ∧ t = 0) ∨ (f = 2 ∧ t = 1) := by
  unfold linkL at h
  simp only [Bool.and_eq_true, decide_eq_true_eq, Bool.not_eq_true', decide_eq_false_iff_not] at h
  omega
theorem sendA {H : AHeap} {q b i : Nat} {way : AVal} {ps : List Pq} {lost f t : Int} (hq : NetQ H q way lost) (hw : WayQ H way ps) (hN : ps.length ≤ 200) (hb : H.get b = .cells [.int .u8 i, .int .u8 f] 5 1 .fixed) (lb : b < H.n) (hl : 0 ≤ lost ∧ lost ≤ 10000) (hk : linkL f t = true) :
    ∃ H' way' lost' ps', denF Ω0 none2 c13 [.ptr q 0, .int .i64 f, .int .i64 t, .sl b 0 2 (some 2)] H = some (.int .i64 0, H') ∧ FrQ H H' q ∧ NetQ H' q way' lost' ∧ WayQ H' way' ps' ∧ ((ps' = ps ∧ lost' = lost + 1) ∨ ∃ b', ps' = ps ++ [⟨f, t, i, b'⟩] ∧ lost' = lost ∧ PqB H' ⟨f, t, i, b'⟩) := by
  obtain ⟨lq, u0, u1, u2, u3, u4, u5, u6, u7, u8, hq⟩ := hq
  rcases linkL_cases hk with ⟨rfl, rfl⟩ | ⟨rfl, rfl⟩ | ⟨rfl, rfl⟩ | ⟨rfl, rfl⟩ | ⟨rfl, rfl⟩ | ⟨rfl, rfl⟩
  · obtain ⟨H', way', lost', ps', e, fr, g, w, c⟩ := sendq01 lq hq hw hN hb lb hl
    exact ⟨H', way', lost', ps', e, fr, ⟨by have := fr.1; omega, _, _, _, _, _, _, _, _, _, g⟩, w, c⟩
  · obtain ⟨H', way', lost', ps', e, fr, g, w, c⟩ := sendq02 lq hq hw hN hb lb hl
    exact ⟨H', way', lost', ps', e, fr, ⟨by have := fr.1; omega, _, _, _, _, _, _, _, _, _, g⟩, w, c⟩
  · obtain ⟨H', way', lost', ps', e, fr, g, w, c⟩ := sendq10 lq hq hw hN hb lb hl
    exact ⟨H', way', lost', ps', e, fr, ⟨by have := fr.1; omega, _, _, _, _, _, _, _, _, _, g⟩, w, c⟩
  · obtain ⟨H', way', lost', ps', e, fr, g, w, c⟩ := sendq12 lq hq hw hN hb lb hl
    exact ⟨H', way', lost', ps', e, fr, ⟨by have := fr.1; omega, _, _, _, _, _, _, _, _, _, g⟩, w, c⟩
  · obtain ⟨H', way', lost', ps', e, fr, g, w, c⟩ := sendq20 lq hq hw hN hb lb hl
    exact ⟨H', way', lost', ps', e, fr, ⟨by have := fr.1; omega, _, _, _, _, _, _, _, _, _, g⟩, w, c⟩
  · obtain ⟨H', way', lost', ps', e, fr, g, w, c⟩ := sendq21 lq hq hw hN hb lb hl
    exact ⟨H', way', lost', ps', e, fr, ⟨by have := fr.1; omega, _, _, _, _, _, _, _, _, _, g⟩, w, c⟩
theorem WayQ.fr {H H' : AHeap} {way : AVal} {ps : List Pq} (h : WayQ H way ps) (hn : H.n ≤ H'.n) (fr : ∀ z, z < H.n → (∀ m, way ≠ .sl z 0 m none) ∨ True → H'.get z = H.get z) : WayQ H' way ps := by
  rcases h with h | ⟨w, Z, h1, h2, h3⟩
  · exact .inl h
  · exact .inr ⟨w, Z, h1, by omega, (fr w h2 (.inr trivial)).trans h3⟩
theorem cutA {H : AHeap} {q : Nat} {is : Bool} {way : AVal} {ps : List Pq} {lost f t : Int} (hq : NetQ H q way lost) (hw : WayQ H way ps) :
    ∃ H' e, denF Ω0 none2 c11 [.ptr q 0, .int .i64 f, .int .i64 t, .bool is] H = some (.int .i64 e, H') ∧ FrQ H H' q ∧ NetQ H' q way lost ∧ WayQ H' way ps := by
  have hq0 := hq
  obtain ⟨lq, u0, u1, u2, u3, u4, u5, u6, u7, u8, hq⟩ := hq
  cases hk : linkL f t
  · exact ⟨H, 2, cutq_bad lq hq hk, FrQ.refl _ _, hq0, hw⟩
  · have done : ∀ {H' : AHeap} {v0 v1 v2 v3 v4 v5 v6 v7 v8 : Bool}, H' = H.set q (.cells (nbq v0 v1 v2 v3 v4 v5 v6 v7 v8 way lost) 56 12 .fixed) → FrQ H H' q ∧ NetQ H' q way lost ∧ WayQ H' way ps := by
      intro H' v0 v1 v2 v3 v4 v5 v6 v7 v8 e
      subst e
      refine ⟨⟨Nat.le_refl _, fun z _ h _ => by rw [AHeap.get_set, if_neg h]⟩, ⟨lq, _, _, _, _, _, _, _, _, _, by rw [AHeap.get_set, if_pos rfl]⟩, ?_⟩
      rcases hw with h | ⟨w, Z, a1, a2, a3⟩
      · exact .inl h
      · exact .inr ⟨w, Z, a1, a2, by rw [AHeap.get_set, if_neg (ne_get a3 hq (by simp))]; exact a3⟩
    rcases linkL_cases hk with ⟨rfl, rfl⟩ | ⟨rfl, rfl⟩ | ⟨rfl, rfl⟩ | ⟨rfl, rfl⟩ | ⟨rfl, rfl⟩ | ⟨rfl, rfl⟩
    · exact ⟨_, 0, cutq01 lq hq, done rfl⟩
    · exact ⟨_, 0, cutq02 lq hq, done rfl⟩
    · exact ⟨_, 0, cutq10 lq hq, done rfl⟩
    · exact ⟨_, 0, cutq12 lq hq, done rfl⟩
    · exact ⟨_, 0, cutq20 lq hq, done rfl⟩
    · exact ⟨_, 0, cutq21 lq hq, done rfl⟩
/-- The datagram at a place that is on its way. -/
theorem at_split {ps : List Pq} {i : Int} : (i < 0 ∨ (ps.length : Int) ≤ i) ∨ ∃ A p B, ps = A ++ p :: B ∧ i = A.length := by
  by_cases h : i < 0 ∨ (ps.length : Int) ≤ i
  · exact .inl h
  · have hl : i.toNat < ps.length := by omega
    refine .inr ⟨ps.take i.toNat, ps[i.toNat], ps.drop (i.toNat + 1), ?_, ?_⟩
    · rw [← List.drop_eq_getElem_cons hl, List.take_append_drop]
    · rw [List.length_take]; omega
theorem FrQ.way {H H' : AHeap} {q : Nat} {way : AVal} {ps : List Pq} {lost : Int} (hn : H.n ≤ H'.n) (fr : ∀ z, z < H.n → H'.get z = H.get z) (hq : NetQ H q way lost) (hw : WayQ H way ps) : FrQ H H' q ∧ NetQ H' q way lost ∧ WayQ H' way ps := by
  obtain ⟨lq, u0, u1, u2, u3, u4, u5, u6, u7, u8, hq⟩ := hq
  exact ⟨⟨hn, fun z h _ _ => fr z h⟩, ⟨by omega, _, _, _, _, _, _, _, _, _, (fr q lq).trans hq⟩, hw.fr hn fun z h _ => fr z h⟩
theorem deliverA {H : AHeap} {q : Nat} {way : AVal} {ps : List Pq} {lost i : Int} (hq : NetQ H q way lost) (hw : WayQ H way ps) (hN : ps.length ≤ 200) (hp : ∀ p ∈ ps, PqB H p) :
    (∃ H', denF Ω6 none2 c16 [.ptr q 0, .int .i64 i] H = some (.tup [.agg [.int .i64 0, .int .i64 0, .nils], .int .i64 5], H') ∧ FrQ H H' q ∧ NetQ H' q way lost ∧ WayQ H' way ps) ∨
    ∃ H' way' nb A p B, ps = A ++ p :: B ∧ denF Ω6 none2 c16 [.ptr q 0, .int .i64 i] H = some (.tup [.agg [.int .i64 p.f, .int .i64 p.t, .sl nb 0 2 none], .int .i64 0], H') ∧ FrQ H H' q ∧ NetQ H' q way' lost ∧ WayQ H' way' (A ++ B) ∧ nb < H'.n ∧ H'.get nb = .cells [.int .u8 p.s, .int .u8 p.f] 5 1 .elastic := by
  have hq0 := hq
  obtain ⟨lq, u0, u1, u2, u3, u4, u5, u6, u7, u8, hq⟩ := hq
  rcases at_split (ps := ps) (i := i) with h | ⟨A, p, B, rfl, rfl⟩
  · obtain ⟨H', e, n, z⟩ := deliverq_bad lq hq hw.len h
    exact .inl ⟨H', e, FrQ.way n z hq0 hw⟩
  · obtain ⟨H', way', nb, e, l, g, q', w', fr⟩ := deliverq_ok lq hq hw (hp p (by simp)) (by simp at hN; omega)
    exact .inr ⟨H', way', nb, A, p, B, rfl, e, fr, ⟨by have := fr.1; omega, _, _, _, _, _, _, _, _, _, q'⟩, w', l, g⟩
theorem dropA {H : AHeap} {q : Nat} {way : AVal} {ps : List Pq} {lost i : Int} (hq : NetQ H q way lost) (hw : WayQ H way ps) (hN : ps.length ≤ 200) (hp : ∀ p ∈ ps, PqB H p) (hl : 0 ≤ lost ∧ lost ≤ 10000) :
    ∃ H' e way' lost' ps', denF Ω7 none2 c20 [.ptr q 0, .int .i64 i] H = some (.int .i64 e, H') ∧ FrQ H H' q ∧ NetQ H' q way' lost' ∧ WayQ H' way' ps' ∧ (∀ p ∈ ps', p ∈ ps) ∧ lost' + ps'.length = lost + ps.length ∧ lost ≤ lost' := by
  have hq0 := hq
  obtain ⟨lq, u0, u1, u2, u3, u4, u5, u6, u7, u8, hq⟩ := hq
  rcases at_split (ps := ps) (i := i) with h | ⟨A, p, B, rfl, rfl⟩
  · obtain ⟨H', e, n, z⟩ := dropq_bad lq hq hw.len h
    obtain ⟨a, b, c⟩ := FrQ.way n z hq0 hw
    exact ⟨H', 5, way, lost, ps, e, a, b, c, fun _ h => h, rfl, Int.le_refl _⟩
  · obtain ⟨H', way', e, q', w', fr⟩ := dropq_ok lq hq hw (hp p (by simp)) (by simp at hN; omega) hl
    exact ⟨H', 0, way', lost + 1, A ++ B, e, fr, ⟨by have := fr.1; omega, _, _, _, _, _, _, _, _, _, q'⟩, w', fun p' h => by simp at h ⊢; rcases h with h | h <;> simp [h], by simp; omega, by omega⟩
theorem doubleA {H : AHeap} {q : Nat} {way : AVal} {ps : List Pq} {lost i : Int} (hq : NetQ H q way lost) (hw : WayQ H way ps) (hN : ps.length ≤ 190) (hp : ∀ p ∈ ps, PqB H p) :
    (∃ H', denF Ω2 none2 c17 [.ptr q 0, .int .i64 i] H = some (.int .i64 5, H') ∧ FrQ H H' q ∧ NetQ H' q way lost ∧ WayQ H' way ps) ∨
    ∃ H' way' nb p, p ∈ ps ∧ denF Ω2 none2 c17 [.ptr q 0, .int .i64 i] H = some (.int .i64 0, H') ∧ FrQ H H' q ∧ NetQ H' q way' lost ∧ WayQ H' way' (ps ++ [⟨p.f, p.t, p.s, nb⟩]) ∧ PqB H' ⟨p.f, p.t, p.s, nb⟩ := by
  have hq0 := hq
  obtain ⟨lq, u0, u1, u2, u3, u4, u5, u6, u7, u8, hq⟩ := hq
  rcases at_split (ps := ps) (i := i) with h | ⟨A, p, B, rfl, rfl⟩
  · obtain ⟨H', e, n, z⟩ := doubleq_bad lq hq hw.len h
    exact .inl ⟨H', e, FrQ.way n z hq0 hw⟩
  · obtain ⟨H', way', nb, e, q', pb, w', fr⟩ := doubleq_ok lq hq hw (hp p (by simp)) (by simp at hN; omega)
    exact .inr ⟨H', way', nb, p, by simp, e, fr, ⟨by have := fr.1; omega, _, _, _, _, _, _, _, _, _, q'⟩, w', pb⟩
theorem clearA {H : AHeap} {q : Nat} {way : AVal} {ps : List Pq} {lost : Int} (hq : NetQ H q way lost) (hw : WayQ H way ps) (hN : ps.length ≤ 200) (hl : 0 ≤ lost ∧ lost ≤ 10000) :
    ∃ H', denF Ω0 none2 c21 [.ptr q 0] H = some (.int .i64 0, H') ∧ FrQ H H' q ∧ NetQ H' q .nils (lost + ps.length) ∧ WayQ H' .nils [] := by
  obtain ⟨lq, u0, u1, u2, u3, u4, u5, u6, u7, u8, hq⟩ := hq
  obtain ⟨H', e, n, z, g⟩ := clearq lq hq hw.len (by rw [IntKind.wrap_i64]; omega) hw.beq
  exact ⟨H', e, ⟨by omega, fun x _ h _ => z x h⟩, ⟨by omega, _, _, _, _, _, _, _, _, _, g⟩, .inl ⟨rfl, rfl⟩⟩
theorem countA {H : AHeap} {q : Nat} {way : AVal} {ps : List Pq} {lost : Int} (hq : NetQ H q way lost) (hw : WayQ H way ps) : denF Ω0 none2 c14 [.ptr q 0] H = some (.int .i64 ps.length, H) := by
  obtain ⟨lq, u0, u1, u2, u3, u4, u5, u6, u7, u8, hq⟩ := hq
  exact countq lq hq hw.len
theorem lostA {H : AHeap} {q : Nat} {way : AVal} {lost : Int} (hq : NetQ H q way lost) : denF Ω0 none2 c15 [.ptr q 0] H = some (.int .i64 lost, H) := by
  obtain ⟨lq, u0, u1, u2, u3, u4, u5, u6, u7, u8, hq⟩ := hq
  exact lostq lq hq
/-- What was sent. -/
structure Ac where
  k : Int
  I : Int
  T : Int
  b : Bool
  v : AVal
  hv : v.isCell = true
def Ac.cells (a : Ac) : List AVal := [.int .i64 a.k, .int .i64 a.I, .int .i64 a.T, .bool a.b, a.v]
def flatS : List Ac → List AVal
  | [] => []
  | a :: xs => a.cells ++ flatS xs
theorem flatS_len : ∀ (xs : List Ac), (flatS xs).length = xs.length * 5
  | [] => rfl
  | a :: xs => by simp only [flatS, List.length_append, flatS_len xs, Ac.cells, List.length_cons, List.length_nil]; omega
theorem flatS_app : ∀ (a b : List Ac), flatS (a ++ b) = flatS a ++ flatS b
  | [], b => rfl
  | p :: a, b => by simp [flatS, flatS_app a b]
theorem flatS_at : ∀ (xs : List Ac) (Z : List AVal) (s : Nat) (a : Ac), xs[s]? = some a → (flatS xs ++ Z)[s * 5 + 1]? = some (.int .i64 a.I) ∧ (flatS xs ++ Z)[s * 5 + 2]? = some (.int .i64 a.T)
  | [], _, s, _, h => by simp at h
  | x :: xs, Z, 0, a, h => by
    simp at h; subst h
    simp [flatS, Ac.cells]
  | x :: xs, Z, s + 1, a, h => by
    have := flatS_at xs Z s a (by simpa using h)
    rw [show (s + 1) * 5 + 1 = s * 5 + 1 + 5 by omega, show (s + 1) * 5 + 2 = s * 5 + 2 + 5 by omega]
    simpa [flatS, Ac.cells] using this
def SentQ (H : AHeap) (sent : AVal) (ss : List Ac) : Prop := (ss = [] ∧ sent = .nils) ∨ ∃ w Z, sent = .sl w 0 ss.length none ∧ w < H.n ∧ H.get w = .cells (flatS ss ++ Z) 35 5 .elastic
theorem SentQ.len {H : AHeap} {sent : AVal} {ss : List Ac} (h : SentQ H sent ss) : lenK (some sent) = some (.int .i64 ss.length) := by
  rcases h with ⟨rfl, rfl⟩ | ⟨w, _, rfl, _⟩ <;> rfl
theorem store_el5 {H : AHeap} {w o : Nat} {L vs : List AVal} (hW : H.get w = .cells L 35 5 .elastic) (hl : o + vs.length ≤ L.length) (hc : vs.all AVal.isCell = true) : H.store w o vs = some (H.set w (.cells (placeA L o vs) 35 5 .elastic)) := by
  unfold AHeap.store
  rw [hW]
  simp only []
  rw [if_pos ⟨by simp, hl, hc⟩]
theorem sentq_app {G : AHeap} {s : Nat} {sent : AVal} {ss : List Ac} {a : Ac} (h : SentQ G sent ss) (hs : G.get s = .cells a.cells 35 5 .fixed) (hN : ss.length ≤ 200) :
    ∃ G' sent', appendA G 35 5 56 sent (.sl s 0 1 (some 1)) = some (sent', G') ∧ G.n ≤ G'.n ∧ (∀ z, z < G.n → (∀ L, G.get z ≠ .cells L 35 5 .elastic) → G'.get z = G.get z) ∧ SentQ G' sent' (ss ++ [a]) := by
  have hv := a.hv
  have i1 : ∀ k n, (AVal.int k n).isCell = true := fun _ _ => rfl
  have i2 : ∀ b, (AVal.bool b).isCell = true := fun _ => rfl
  rcases h with ⟨rfl, rfl⟩ | ⟨w, Z, rfl, lw, hw⟩
  · refine ⟨G.push (.cells a.cells 35 5 .elastic), .sl G.n 0 1 none, by unfold Ac.cells at hs ⊢; simp [appendA, lenA, srcCells, hs, i1, i2, hv], by simp, fun z hz _ => by rw [AHeap.get_push, if_neg (by omega)], .inr ⟨G.n, [], rfl, by simp, by rw [AHeap.get_push, if_pos rfl]; simp [flatS]⟩⟩
  · have hL := flatS_len ss
    have hLL : (flatS ss ++ Z).length = ss.length * 5 + Z.length := by simp [hL]
    have e1 : (flatS ss ++ Z).take (ss.length * 5) = flatS ss := List.take_left' hL
    have e3 : (ss.length + 1) * 56 ≤ 17592186044416 := by omega
    have e4 : ss.length + 1 ≤ 17592186044416 := by omega
    have hn : (G.set w .dead).n = G.n := rfl
    have hca : a.cells.all AVal.isCell = true := by simp [Ac.cells, i1, i2, hv]
    by_cases hr : (ss.length + 1) * 5 ≤ ss.length * 5 + Z.length
    · have st := store_el5 (o := ss.length * 5) (vs := a.cells) hw (by rw [hLL]; simp [Ac.cells]; omega) hca
      refine ⟨G.set w (.cells (placeA (flatS ss ++ Z) (ss.length * 5) a.cells) 35 5 .elastic), .sl w 0 (ss.length + 1) none, ?_, Nat.le_refl _, fun z hz hne => by rw [AHeap.get_set, if_neg (fun e => hne _ (by rw [e]; exact hw))], .inr ⟨w, Z.drop 5, by simp, lw, ?_⟩⟩
      · unfold Ac.cells at hs st hca ⊢
        simp only [appendA, lenA, srcCells, hs, hw, roomA, Option.bind_some, hLL]
        simp [i1, i2, hr, st, hv]
      · rw [AHeap.get_set, if_pos rfl]
        have e5 : (flatS ss ++ Z).drop (ss.length * 5 + 5) = Z.drop 5 := by rw [← hL, List.drop_append]; simp
        simp only [placeA, e1, flatS_app, flatS, List.append_nil]
        rw [show ss.length * 5 + a.cells.length = ss.length * 5 + 5 from rfl, e5]
    · refine ⟨(G.set w .dead).push (.cells (flatS ss ++ a.cells) 35 5 .elastic), .sl G.n 0 (ss.length + 1) none, ?_, by simp, fun z hz hne => by rw [AHeap.get_push, if_neg (by rw [hn]; omega), AHeap.get_set, if_neg (fun e => hne _ (by rw [e]; exact hw))], .inr ⟨G.n, [], by simp, by simp, ?_⟩⟩
      · unfold Ac.cells at hs hca ⊢
        simp only [appendA, lenA, srcCells, hs, hw, roomA, Option.bind_some, hLL]
        have e6 : ss.length * 5 ≤ ss.length * 5 + Z.length := by omega
        simp [i1, i2, hr, e1, e3, e4, e6, hv]
      · show AHeap.get _ (G.set w .dead).n = _
        rw [AHeap.get_push, if_pos rfl, flatS_app]; simp [flatS]
end Go.Eng.SeatC

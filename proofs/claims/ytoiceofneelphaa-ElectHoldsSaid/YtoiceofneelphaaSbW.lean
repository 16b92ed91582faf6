/- Layer 19: ElectHolds. -/
import Derived.Test.YtoiceofneelphaaSbU
import Derived.Test.YtoiceofneelphaaSbT
set_option linter.unusedSimpArgs false
set_option linter.unusedVariables false
set_option maxHeartbeats 40000000
namespace Go.Eng.SeatB
open Go.Proofs
structure Lse where
  give : Bool
  fr : Int
  st : Int
  m : Msg
def Lse.cs (x : Lse) : List AVal := .bool x.give :: .int .i64 x.fr :: .int .i64 x.st :: x.m.cs
def Lses (H : AHeap) (b o n : Nat) (f : Nat → Lse) : Prop := ∃ L e es md, H.get b = .cells L e es md ∧ o + n * 15 ≤ L.length ∧ ∀ i, i < n → (L.drop (o + i * 15)).take 15 = (f i).cs
theorem Lses.mono {H H' : AHeap} {b o n : Nat} {f : Nat → Lse} (h : Lses H b o n f) (e : H'.get b = H.get b) : Lses H' b o n f := by
  obtain ⟨L, t, es, md, h1, h2⟩ := h
  exact ⟨L, t, es, md, by rw [e]; exact h1, h2⟩
theorem Lses.at {L : List AVal} {o n : Nat} {f : Nat → Lse} (h : ∀ i, i < n → (L.drop (o + i * 15)).take 15 = (f i).cs) {i j : Nat} (hi : i < n) (hj : j < 15) : L[o + i * 15 + j]? = (f i).cs[j]? := by
  rw [← h i hi, List.getElem?_take, if_pos hj, List.getElem?_drop]
theorem Lses.ms {L : List AVal} {o n : Nat} {f : Nat → Lse} (h : ∀ i, i < n → (L.drop (o + i * 15)).take 15 = (f i).cs) {i : Nat} (hi : i < n) : (L.drop (o + i * 15 + 3)).take 12 = (f i).m.cs := by
  have := congrArg (List.drop 3) (h i hi)
  rw [List.drop_take, List.drop_drop] at this
  exact this
theorem stepH {H : AHeap} {b o n i : Nat} {c : Option Nat} {f : Nat → Lse} {qa qb : Nat} {node term now : Int} {s0 s1 s2 : AVal} {t0 t1 t2 : Int} (hM : Lses H b o n f) (hb : b < H.n) (hba : b ≠ qa) (hbb : b ≠ qb) (J : JH H qa qb node term s0 s1 s2 t0 t1 t2 t0 t1 t2) (hi : i < n) (hn : n ≤ 60) :
    aden Φ8 b6_0 ⟨[(2, .sl b o n c), (3, .int .i64 now), (9, .ptr qa 0), (11, .ptr qb 0), (13, .int .i64 i)], H, []⟩ = some (.ret, ⟨[(8, .bool true)], H, []⟩) ∨
    ∃ H' s0' s1' s2' t0' t1' t2', Keep H H' qa qb ∧ JH H' qa qb node term s0' s1' s2' t0' t1' t2' t0' t1' t2' ∧ aden Φ8 b6_0 ⟨[(2, .sl b o n c), (3, .int .i64 now), (9, .ptr qa 0), (11, .ptr qb 0), (13, .int .i64 i)], H, []⟩ = some (.normal, ⟨[(2, .sl b o n c), (3, .int .i64 now), (9, .ptr qa 0), (11, .ptr qb 0), (13, .int .i64 (i + 1 : Nat))], H', []⟩) := by
  have hM0 := hM
  obtain ⟨L, e, es, md, hg, hl, hf⟩ := hM
  have hx0 : L[o + i * 15]? = some (.bool (f i).give) := Lses.at hf hi (j := 0) (by omega)
  have hx1 : L[o + i * 15 + 1]? = some (.int .i64 (f i).fr) := Lses.at hf hi (j := 1) (by omega)
  have hx2 : L[o + i * 15 + 2]? = some (.int .i64 (f i).st) := Lses.at hf hi (j := 2) (by omega)
  have hx14 : L[o + i * 15 + 3 + 11]? = some (.raw (.slice (f i).m.da (f i).m.dn (f i).m.dc)) := Lses.at hf hi (j := 14) (by omega)
  have hm := Lses.ms hf hi
  have hle : o + i * 15 + 3 + 12 ≤ L.length := by omega
  have hw : IntKind.i64.wrap ((i : Int) + 1) = ((i : Int) + 1) := by rw [IntKind.wrap_i64]; omega
  have h1 : (i : Int) < (n : Int) := by omega
  by_cases hd : (100 : Int) < (f i).m.dn
  · left
    unfold b6_0
    simp (maxSteps := 10000000) +contextual [go_sem, hg, hi, h1, hx0, hx1, hx2, hx14, hm, hle, hw, hd, p8_16, rTrue16]
  · right
    cases hgv : (f i).give with
    | true =>
      rw [hgv] at hx0
      obtain ⟨y, H1, H2, a, b', c', u, v, w, e1, k1, e2, k2, J2⟩ := J.gives (f i).fr (f i).st
      refine ⟨H2, a, b', c', u, v, w, k1.trans k2, J2, ?_⟩
      have g1 : H1.get b = .cells L e es md := (k1.2 b hb hba hbb).trans hg
      have b1 : b < H1.n := Nat.lt_of_lt_of_le hb k1.1
      have g2 : H2.get b = .cells L e es md := (k2.2 b b1 hba hbb).trans g1
      have b2 : b < H2.n := Nat.lt_of_lt_of_le b1 k2.1
      unfold b6_0
      simp (maxSteps := 10000000) +contextual [go_sem, hg, hb, hi, h1, hx0, hx1, hx2, hx14, hm, hle, hw, hd, p8_30, p8_35, p8_31, p8_37, p8_32, p8_38, e1, e2, g1, g2, b1, b2, left32 J2, left38 J2, valid31 J2, valid37 J2]
    | false =>
      rw [hgv] at hx0
      obtain ⟨x, y, H1, H2, a, b', c', u, v, w, e1, k1, e2, k2, J2⟩ := J.hear (f i).m
      refine ⟨H2, a, b', c', u, v, w, k1.trans k2, J2, ?_⟩
      have g1 : H1.get b = .cells L e es md := (k1.2 b hb hba hbb).trans hg
      have b1 : b < H1.n := Nat.lt_of_lt_of_le hb k1.1
      have g2 : H2.get b = .cells L e es md := (k2.2 b b1 hba hbb).trans g1
      have b2 : b < H2.n := Nat.lt_of_lt_of_le b1 k2.1
      unfold b6_0
      simp (maxSteps := 10000000) +contextual [go_sem, hg, hb, hi, h1, hx0, hx1, hx2, hx14, hm, hle, hw, hd, p8_29, p8_36, p8_31, p8_37, p8_32, p8_38, e1, e2, g1, g2, b1, b2, left32 J2, left38 J2, valid31 J2, valid37 J2]
theorem lastH {H : AHeap} {b o n qa qb : Nat} {c : Option Nat} {now : Int} :
    aden Φ8 b6_0 ⟨[(2, .sl b o n c), (3, .int .i64 now), (9, .ptr qa 0), (11, .ptr qb 0), (13, .int .i64 n)], H, []⟩ = some (.exit 0, ⟨[(2, .sl b o n c), (3, .int .i64 now), (9, .ptr qa 0), (11, .ptr qb 0), (13, .int .i64 n), (49, .bool false)], H, []⟩) := by
  unfold b6_0
  simp (maxSteps := 10000000) +contextual [go_sem]
theorem loopH {b o n : Nat} {c : Option Nat} {f : Nat → Lse} {qa qb : Nat} {node term now : Int} (hba : b ≠ qa) (hbb : b ≠ qb) (hn : n ≤ 60) : ∀ (k i : Nat), i + k = n → ∀ {H : AHeap} {s0 s1 s2 : AVal} {t0 t1 t2 : Int}, Lses H b o n f → b < H.n → JH H qa qb node term s0 s1 s2 t0 t1 t2 t0 t1 t2 →
    ∃ H', iter (aden Φ8 b6_0) (k + 1) ⟨[(2, .sl b o n c), (3, .int .i64 now), (9, .ptr qa 0), (11, .ptr qb 0), (13, .int .i64 i)], H, []⟩ = some (.ret, ⟨[(8, .bool true)], H', []⟩) ∨
      iter (aden Φ8 b6_0) (k + 1) ⟨[(2, .sl b o n c), (3, .int .i64 now), (9, .ptr qa 0), (11, .ptr qb 0), (13, .int .i64 i)], H, []⟩ = some (.exit 0, ⟨[(2, .sl b o n c), (3, .int .i64 now), (9, .ptr qa 0), (11, .ptr qb 0), (13, .int .i64 n), (49, .bool false)], H', []⟩) := by
  intro k
  induction k with
  | zero =>
    intro i hi H s0 s1 s2 t0 t1 t2 hM hb J
    have hi' : i = n := by omega
    subst hi'
    exact ⟨H, .inr (by rw [iter_succ, lastH]; rfl)⟩
  | succ k ih =>
    intro i hi H s0 s1 s2 t0 t1 t2 hM hb J
    rcases stepH (c := c) (now := now) hM hb hba hbb J (show i < n by omega) hn with hs | ⟨H1, a, b', c', u, v, w, k1, J1, hs⟩
    · exact ⟨H, .inl (by rw [iter_succ, hs, iterK_r])⟩
    · obtain ⟨H2, h2⟩ := ih (i + 1) (by omega) (hM.mono (k1.2 b hb hba hbb)) (Nat.lt_of_lt_of_le hb k1.1) J1
      refine ⟨H2, ?_⟩
      rw [iter_succ, hs, iterK_n]; exact h2
theorem law6 {H : AHeap} {b o n : Nat} {c : Option Nat} {f : Nat → Lse} {node term now : Int} (hM : Lses H b o n f) (hb : b < H.n) :
    ∃ H', denF Φ8 none2 c6 [.int .i64 node, .int .i64 term, .sl b o n c, .int .i64 now] H = some (.bool true, H') := by
  by_cases h6 : (60 : Int) < n
  · refine ⟨H, ?_⟩
    unfold c6
    simp (maxSteps := 10000000) +contextual [go_sem, p8_16, rTrue16, h6]
  cases hg : mayN node term with
  | false =>
    refine ⟨H, ?_⟩
    unfold c6
    simp (maxSteps := 10000000) +contextual [go_sem, p8_16, p8_33, p8_34, rTrue16, h6, begin33_no hg, begin34_no hg]
  | true =>
    have n1 : ¬ b = H.n := by omega
    have n2 : ¬ b = H.n + 1 := by omega
    have J : JH ((H.push (.cells [.bool true, .int .i64 node, .int .i64 term, .nilp, .nilp, .nilp] 52 6 .fixed)).push (.cells [.int .i64 node, .int .i64 term, .int .i64 (-1), .int .i64 (-1), .int .i64 (-1)] 134 5 .fixed)) H.n (H.n + 1) node term .nilp .nilp .nilp (-1) (-1) (-1) (-1) (-1) (-1) :=
      ⟨by simp; omega, by simp, by omega, by simp [AHeap.get_push], by simp [AHeap.get_push], .inl ⟨rfl, rfl⟩, .inl ⟨rfl, rfl⟩, .inl ⟨rfl, rfl⟩⟩
    obtain ⟨H', h⟩ := loopH (c := c) (now := now) n1 n2 (show n ≤ 60 by omega) n 0 (by omega) (hM.mono (by simp [AHeap.get_push, n1, n2])) (by simp; omega) J
    rw [show ((0 : Nat) : Int) = 0 from rfl] at h
    refine ⟨H', ?_⟩
    rcases h with h | h
    · have h := iter_mono h (show n + 1 ≤ fuel by unfold fuel; omega)
      unfold c6
      simp (maxSteps := 10000000) +contextual [go_sem, p8_16, p8_33, p8_34, rTrue16, h6, begin33_yes hg, begin34_yes hg, h]
    · have h := iter_mono h (show n + 1 ≤ fuel by unfold fuel; omega)
      unfold c6
      simp (maxSteps := 10000000) +contextual [go_sem, p8_16, p8_33, p8_34, rTrue16, h6, begin33_yes hg, begin34_yes hg, h]
theorem law6n {H : AHeap} {node term now : Int} :
    ∃ H', denF Φ8 none2 c6 [.int .i64 node, .int .i64 term, .nils, .int .i64 now] H = some (.bool true, H') := by
  cases hg : mayN node term with
  | false =>
    refine ⟨H, ?_⟩
    unfold c6
    simp (maxSteps := 10000000) +contextual [go_sem, p8_16, p8_33, p8_34, rTrue16, begin33_no hg, begin34_no hg]
  | true =>
    have h : ∀ G, iter (aden Φ8 b6_0) (0 + 1) ⟨[(2, .nils), (3, .int .i64 now), (9, .ptr H.n 0), (11, .ptr (H.n + 1) 0), (13, .int .i64 0)], G, []⟩ = some (.exit 0, ⟨[(2, .nils), (3, .int .i64 now), (9, .ptr H.n 0), (11, .ptr (H.n + 1) 0), (13, .int .i64 0), (49, .bool false)], G, []⟩) := by
      intro G
      rw [iter_succ]
      unfold b6_0
      simp (maxSteps := 10000000) +contextual [go_sem]
    have h := fun G => iter_mono (h G) (show 0 + 1 ≤ fuel by unfold fuel; omega)
    refine ⟨(H.push (.cells [.bool true, .int .i64 node, .int .i64 term, .nilp, .nilp, .nilp] 52 6 .fixed)).push (.cells [.int .i64 node, .int .i64 term, .int .i64 (-1), .int .i64 (-1), .int .i64 (-1)] 134 5 .fixed), ?_⟩
    unfold c6
    simp (maxSteps := 10000000) +contextual [go_sem, p8_16, p8_33, p8_34, rTrue16, begin33_yes hg, begin34_yes hg, h]
theorem s6 : Sound Try.prog 6 (denF Φ8 none2 c6) := fun_sound ok8 none_soundD mixed Try.func6 cal6 comp6
section
open Go.ChangeShapes Go.WideShapes Go.ChangeAt Go.RowKit
def lseLK : List LK := .bool :: .int .i64 :: .int .i64 :: msgLK
theorem fit_lse : ∀ {vs : List Value}, fitK lseLK vs → ∃ x : Lse, vs.map av0 = x.cs
  | a :: b :: c :: vs, h => by
    obtain ⟨⟨x, rfl⟩, ⟨y, rfl, _⟩, ⟨z, rfl, _⟩, h⟩ := h
    obtain ⟨m, hm⟩ := fit_msg h
    exact ⟨⟨x, y, z, m⟩, by simp only [List.map_cons, hm]; rfl⟩
  | [], h => h.elim
  | [_], h => h.2.elim
  | [_, _], h => h.2.2.elim
theorem lses_of {H : Type} {enc : TypeId × Value → H} {P : Program} {W : World} {r : Reach} {base : Nat} {t e : TypeId} {v : Value} {d : DataW H} {p : List MemPlace} {n : Nat} (ht : P.underlying t = some (.slice e)) (he : leaves P n e = some lseLK) (hk : P.cellsOf e = 15) (hv : Value.okWide P W r base t v)
    (hA : DataW.Trod enc P W 0 (fun _ => true) true t v d p) : avv W.heap.size v = .nils ∨ ∃ (b o len cap : Nat) (f : Nat → Lse), avv W.heap.size v = .sl b o len (some cap) ∧ b < (heapOf W).n ∧ Lses (heapOf W) b o len f := by
  rcases slice_cells ht he hk rfl hv hA with h | ⟨b, o, len, cap, L, te, g, h, hb, hl, hg, hle, hc⟩
  · exact .inl h
  · refine .inr ⟨b, o, len, cap, fun i => if hi : i < len then Classical.choose (fit_lse (hc i hi).2) else ⟨false, 0, 0, 0, 0, 0, 0, 0, 0, false, 0, 0, 0, 0, none, 0, 0⟩, h, hb, L, te, 1, .ro, hg, hle, fun i hi => ?_⟩
    simp only [dif_pos hi]
    exact (hc i hi).1.trans (Classical.choose_spec (fit_lse (hc i hi).2))
end
end Go.Eng.SeatB

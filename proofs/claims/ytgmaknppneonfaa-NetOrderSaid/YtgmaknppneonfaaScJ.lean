/- Layer 14: NetOrder. -/
import Derived.Test.YtgmaknppneonfaaScI
import Derived.Test.YtgmaknppneonfaaEngLeafK
set_option linter.unusedSimpArgs false
set_option linter.unusedVariables false
set_option maxHeartbeats 40000000
namespace Go.Eng.SeatC
open Go.Proofs
theorem o5_16' (l : List AVal) (H : AHeap) : Ω5 16 l H = denF Ω6 none2 c16 l H := (rfl)
structure JD (H : AHeap) (lk q : Nat) (c0 c1 c2 c3 c4 c5 : Bool) (way want : AVal) (ws : List Nat) (ps : List Pk) (lost : Int) (j : Nat) : Prop where
  lq : q < H.n
  hq : H.get q = .cells (nbc c0 c1 c2 c3 c4 c5 way lost) 56 12 .fixed
  wd : WayD H way ps
  pk : ∀ p ∈ ps, PkOK H p
  ll : lk < H.n
  hl : H.get lk = .cells lkc 27 2 .fixed
  t : WantOK H want ws
  e : ws.drop j = ps.map (·.i)
  n : ws.length ≤ 100
abbrev tmD (lk q : Nat) (want : AVal) (j : Nat) : Tm := [(5, .bool true), (6, .ptr q 0), (7, .sl lk 0 6 (some 6)), (9, want), (12, .int .i64 j)]
theorem stepD0 {H : AHeap} {lk q : Nat} {c0 c1 c2 c3 c4 c5 : Bool} {way want : AVal} {ws : List Nat} {p : Pk} {ps : List Pk} {lost : Int} {j : Nat} (J : JD H lk q c0 c1 c2 c3 c4 c5 way want ws (p :: ps) lost j) :
    ∃ H' way', JD H' lk q c0 c1 c2 c3 c4 c5 way' want ws ps lost (j + 1) ∧ aden Ω5 b3_0 ⟨tmD lk q want j, H, []⟩ = some (.normal, ⟨tmD lk q want (j + 1), H', []⟩) := by
  have hl0 : (p :: ps).length = ws.length - j := by
    have := congrArg List.length J.e
    simpa using this.symm
  have hps : ps.length ≤ 200 := by have := J.n; simp at hl0; omega
  have hj : j < ws.length := by simp at hl0; omega
  have hp := J.pk p (by simp)
  obtain ⟨H1, way', nb, e1, n1, lnb, gnb, q1, wd1, fr⟩ := deliver16 J.lq J.hq J.wd hp hps
  have hwj : ws[j]? = some p.i := by
    have := congrArg (fun l => l[0]?) J.e
    simpa using this
  have lq := J.lq
  have ll := J.ll
  have l1 : H1.get lk = .cells lkc 27 2 .fixed := (fr lk ll (ne_get J.hl J.hq (by simp)) (by simp [J.hl])).trans J.hl
  have t1 : WantOK H1 want ws := J.t.keep n1 fun z L hz h => fr z hz (ne_get h J.hq (by simp)) (by simp [h])
  have pk1 : ∀ p' ∈ ps, PkOK H1 p' := fun p' hp' => (J.pk p' (by simp [hp'])).keep n1 ⟨_, J.hq⟩ fun z hz h1 h2 _ => fr z hz h1 h2
  obtain ⟨G, hG⟩ : ∃ G, G = (H1.push (.cells [.int .i64 0, .int .i64 0, .nils] 39 3 .fixed)).set H1.n (.cells [.int .i64 (frK p.k), .int .i64 (toK p.k), .sl nb 0 2 none] 39 3 .fixed) := ⟨_, rfl⟩
  have Gn : G.n = H1.n + 1 := by rw [hG]; simp
  have Gz : ∀ z, z < H1.n → G.get z = H1.get z := fun z h => by rw [hG, AHeap.get_set, if_neg (by omega), AHeap.get_push, if_neg (by omega)]
  have Gv : G.get H1.n = .cells [.int .i64 (frK p.k), .int .i64 (toK p.k), .sl nb 0 2 none] 39 3 .fixed := by rw [hG, AHeap.get_set, if_pos rfl]
  have lq1 : q < H1.n := by omega
  have ll1 : lk < H1.n := by omega
  refine ⟨G, way', ⟨by omega, (Gz q lq1).trans q1, ?_, fun p' hp' => (pk1 p' hp').keep (by omega) ⟨_, q1⟩ fun z hz _ _ _ => Gz z hz, by omega, (Gz lk ll1).trans l1, t1.keep (by omega) fun z _ hz _ => Gz z hz, ?_, J.n⟩, ?_⟩
  · rcases wd1 with h | ⟨w, Z, a1, a2, a3⟩
    · exact .inl h
    · exact .inr ⟨w, Z, a1, by omega, (Gz w a2).trans a3⟩
  · have := congrArg (List.drop 1) J.e
    rw [List.drop_drop] at this
    simpa using this
  have Gl := (Gz lk ll1).trans l1
  have Gb := (Gz nb lnb).trans gnb
  have hi := hp.2.1
  have hk := hp.1
  have hwi : IntKind.i64.wrap (p.i : Int) = p.i := by rw [IntKind.wrap_i64]; omega
  have hn := J.n
  have hw : IntKind.i64.wrap ((j : Int) + 1) = ((j : Int) + 1) := by rw [IntKind.wrap_i64]; omega
  have hlt : (j : Int) < (ws.length : Int) := by omega
  have dn : nb < H1.n + 1 := by omega
  have dk : lk < H1.n + 1 := by omega
  rcases t1 with ⟨h, _⟩ | ⟨t, t0, rfl, lt, ht⟩
  · subst h; simp at hj
  have Gt := (Gz t lt).trans ht
  have dt : t < H1.n + 1 := by omega
  have hx : (ws.map fun (i : Nat) => AVal.int .i64 (i : Int))[j]? = some (.int .i64 p.i) := by rw [List.getElem?_map, hwj]; rfl
  obtain ⟨pk, pi, pb⟩ := p
  simp only at *
  generalize (ws.map fun (i : Nat) => AVal.int .i64 (i : Int)) = WL at *
  rw [hG] at Gv Gl Gb Gt ⊢
  unfold lkc at Gl
  unfold b3_0 tmD
  rcases (show pk = 0 ∨ pk = 1 ∨ pk = 2 ∨ pk = 3 ∨ pk = 4 ∨ pk = 5 by omega) with rfl | rfl | rfl | rfl | rfl | rfl
  all_goals
    simp [frK, toK] at Gv Gl Gb Gt e1 ⊢
    simp (maxSteps := 10000000) +contextual [go_sem, hj, hlt, o5_16', e1, Gv, Gl, Gb, Gt, hwi, hw, hx, dn, dk, dt]
end Go.Eng.SeatC

/- The engine, thirteenth part: append, copy, clear. -/
import Derived.Test.YtgmaknppneonfaaEngL
set_option linter.unusedSimpArgs false
set_option linter.unusedVariables false
namespace Go.Eng
variable {P : Program}

/-- A block that nobody asks for any more. -/
theorem Rel.kill {E : Env} {H : AHeap} {w : World} (R : Rel E H w) (b : Nat) : Rel E (H.set b .dead) w where
  blk c k hc := by
    rw [AHeap.get_set]
    by_cases e : c = b
    · rw [if_pos e]; trivial
    · rw [if_neg e]; exact R.blk c k hc
  inj c d k m hc hd he h1 h2 := by
    rw [AHeap.get_set] at h1 h2
    by_cases e : c = b
    · rw [if_pos e] at h1; simp [ABlk.rw] at h1
    · rw [if_neg e] at h1
      by_cases e' : d = b
      · rw [if_pos e'] at h2; simp [ABlk.alive] at h2
      · rw [if_neg e'] at h2; exact R.inj c d k m hc hd he h1 h2
  lt := R.lt
theorem Ext.kill (E : Env) (H : AHeap) (w : World) (b : Nat) : Ext E H w E (H.set b .dead) w where
  le := Env.le_refl E
  new c k hc he := by simp [hc] at he
  all c h1 h2 := by simp at h2; omega
  n := by simp
  size := Nat.le_refl _
  os := rfl
  tape := rfl
  output := rfl
  frame c hc _ := rfl
  loc c k hc he := by simp [hc] at he
  mono c hc h := by
    rw [AHeap.get_set]
    by_cases e : c = b
    · rw [if_pos e]; rfl
    · rw [if_neg e]; exact h
  dead c hc h := by
    rw [AHeap.get_set]
    by_cases e : c = b
    · rw [if_pos e]; rfl
    · rw [if_neg e]; exact h
/-- A block that has been appended to in place goes by a new number. -/
theorem Rel.moved {E : Env} {H : AHeap} {w w' : World} (R : Rel E H w) (hid : E H.n = none) {b : Nat} {l : Loc} (hb : E b = some l) (hr : (H.get b).rw = true) {o : Obj} (W : WSet w w' l.blk o) {blk : ABlk} (hB : ∀ E', E.le E' → BRel E' l (some o) blk) (hrw : blk.rw = true) :
    Rel (E.upd H.n l) ((H.set b .dead).push blk) w' := by
  have hbn : b ≠ H.n := by intro k; rw [k] at hb; simp [hid] at hb
  have get : ∀ c, ((H.set b .dead).push blk).get c = if c = H.n then blk else if c = b then .dead else H.get c := by
    intro c; rw [AHeap.get_push, AHeap.get_set]; rfl
  -- who lives at the place of b: b alone
  have only : ∀ c k, E c = some k → k.blk = l.blk → c ≠ b → H.get c = .dead := by
    intro c k hc hk e
    cases ha : (H.get c).alive with
    | true => exact absurd (R.inj b c l k hb hc hk.symm hr ha).symm e
    | false => cases hg : H.get c with
      | dead => rfl
      | cells _ _ _ _ => rw [hg] at ha; simp [ABlk.alive] at ha
      | map _ => rw [hg] at ha; simp [ABlk.alive] at ha
  refine ⟨fun c k hc => ?_, fun c d k m hc hd he h1 h2 => ?_, fun c k hc => ?_⟩
  · rw [get]
    by_cases e : c = H.n
    · subst e
      rw [Env.upd_at] at hc; simp only [Option.some.injEq] at hc; subst hc
      rw [if_pos rfl, W.at_]
      exact hB _ (Env.le_upd hid)
    · rw [Env.upd_ne E l e] at hc
      rw [if_neg e]
      by_cases e' : c = b
      · rw [if_pos e']; trivial
      · rw [if_neg e']
        by_cases hk : k.blk = l.blk
        · rw [only c k hc hk e']; trivial
        · rw [W.other _ hk]; exact (R.blk c k hc).mono (Env.le_upd hid)
  · rw [get] at h1 h2
    have side : ∀ c k, E.upd H.n l c = some k → (if c = H.n then blk else if c = b then ABlk.dead else H.get c).alive = true → (c = H.n ∧ k = l) ∨ (c ≠ H.n ∧ c ≠ b ∧ E c = some k ∧ (H.get c).alive = true) := by
      intro c k hc ha
      by_cases e : c = H.n
      · subst e
        rw [Env.upd_at] at hc; simp only [Option.some.injEq] at hc
        exact .inl ⟨rfl, hc.symm⟩
      · rw [Env.upd_ne E l e] at hc
        rw [if_neg e] at ha
        by_cases e' : c = b
        · rw [if_pos e'] at ha; simp [ABlk.alive] at ha
        · rw [if_neg e'] at ha; exact .inr ⟨e, e', hc, ha⟩
    rcases side c k hc (rw_alive h1) with ⟨rfl, rfl⟩ | ⟨c1, c2, c3, c4⟩
    · rcases side d m hd h2 with ⟨rfl, rfl⟩ | ⟨d1, d2, d3, d4⟩
      · rfl
      · have := only d m d3 he.symm d2
        rw [this] at d4; simp [ABlk.alive] at d4
    · rcases side d m hd h2 with ⟨rfl, rfl⟩ | ⟨d1, d2, d3, d4⟩
      · have := only c k c3 he c2
        rw [this] at c4; simp [ABlk.alive] at c4
      · rw [if_neg c1, if_neg c2] at h1
        exact R.inj c d k m c3 d3 he h1 d4
  · rw [W.size]
    by_cases e : c = H.n
    · subst e
      rw [Env.upd_at] at hc; simp only [Option.some.injEq] at hc; subst hc
      exact R.lt b _ hb
    · rw [Env.upd_ne E l e] at hc; exact R.lt c k hc
theorem Ext.moved {E : Env} {H : AHeap} {w w' : World} (hid : E H.n = none) {b : Nat} {l : Loc} (hb : E b = some l) (hr : (H.get b).rw = true) {o : Obj} (W : WSet w w' l.blk o) {blk : ABlk} (hrw : blk.rw = true) : Ext E H w (E.upd H.n l) ((H.set b .dead).push blk) w' where
  le := Env.le_upd hid
  new c k hc he := by
    by_cases e : c = H.n
    · simp [e]
    · rw [Env.upd_ne E l e] at hc; simp [hc] at he
  all c h1 h2 := by
    simp at h2
    have : c = H.n := by omega
    subst this; rw [Env.upd_at]; simp
  n := by simp
  size := by rw [W.size]; omega
  os := W.os
  tape := W.tape
  output := W.output
  frame c hc hE := W.other c fun e => by have := hE b l hb e.symm; simp [this] at hr
  loc c k hc he := by
    by_cases e : c = H.n
    · subst e; rw [Env.upd_at] at hc; simp only [Option.some.injEq] at hc; subst hc
      exact .inr ⟨b, _, hb, rfl, hr⟩
    · rw [Env.upd_ne E l e] at hc; simp [hc] at he
  mono c hc h := by
    have hcn : c ≠ H.n := by intro e; subst e; exact hc hid
    rw [AHeap.get_push, AHeap.get_set]
    show (if c = H.n then blk else _).rw = false
    rw [if_neg hcn]
    by_cases e : c = b
    · rw [if_pos e]; rfl
    · rw [if_neg e]; exact h
  dead c hc h := by
    have hcn : c ≠ H.n := by intro e; subst e; exact hc hid
    rw [AHeap.get_push, AHeap.get_set]
    show (if c = H.n then blk else _).alive = false
    rw [if_neg hcn]
    by_cases e : c = b
    · rw [if_pos e]; rfl
    · rw [if_neg e]; exact h
theorem lenA_sound {E : Env} {y : AVal} {yv : Value} {n : Nat} (hy : cv E y = some yv) (hn : lenA y = some n) (w : World) : (Builtin.lenOf yv).run P w = .ok n w := by
  cases y <;> simp only [lenA, Option.some.injEq, reduceCtorEq] at hn
  case str s => simp only [cv, Option.some.injEq] at hy; subst hy; subst hn; simp [Builtin.lenOf, ByteArray.size]
  case sl b o m c => subst hn; cases c <;> (simp only [cv, Option.map_eq_some_iff] at hy; obtain ⟨l, hl, rfl⟩ := hy; simp [Builtin.lenOf])
  case etail b o k s => subst hn; simp only [cv, Option.map_eq_some_iff] at hy; obtain ⟨l, hl, rfl⟩ := hy; simp [Builtin.lenOf]
  case nils => simp only [cv, Option.some.injEq] at hy; subst hy; subst hn; simp [Builtin.lenOf]
theorem srcCells_sound {E : Env} {H : AHeap} {w : World} (R : Rel E H w) {es : Nat} {y : AVal} {yv : Value} (hy : cv E y = some yv) {m n : Nat} (hm : lenA y = some m) (hn : n ≤ m) {new : List AVal} (h : srcCells H es y n = some new) :
    ∃ arr : Array Value, (Builtin.firstCells es n yv).run P w = .ok arr w ∧ cvs E new = some arr.toList := by
  cases y <;> simp only [srcCells, Option.some.injEq, reduceCtorEq] at h
  case str s =>
    simp only [cv, Option.some.injEq] at hy; subst hy; subst h
    refine ⟨_, by simp [Builtin.firstCells]; rfl, ?_⟩
    have : ∀ l : List UInt8, cvs E (l.map fun c => AVal.int .u8 c.toNat) = some (l.map fun b => Value.int .u8 b.toNat) := by
      intro l; induction l with
      | nil => rfl
      | cons c l ih => simp [cvs, cv, ih]
    rw [this]
    simp [ByteArray.data_extract, List.extract_eq_take_drop]
  case sl b o k c =>
    have : ∃ l cc, E b = some l ∧ yv = .slice (some ⟨l.blk, o, none⟩) k cc := by
      cases c <;> (simp only [cv, Option.map_eq_some_iff] at hy; obtain ⟨l, hl, hy⟩ := hy; exact ⟨l, _, hl, hy.symm⟩)
    obtain ⟨l, cc, hl, rfl⟩ := this
    split at h
    · rename_i cs e s' md hb
      by_cases hle : o + n * es ≤ cs.length
      · rw [if_pos hle] at h
        simp only [Option.some.injEq] at h; subst h
        obtain ⟨arr, fz, vs, hw, hcs, htot, hes, ⟨rest, harr, _⟩, _⟩ := R.cells hl hb
        have hlen := cvs_length hcs
        have e1 : (arr.toList.drop o).take (n * es) = (vs.drop o).take (n * es) := by
          rw [harr, List.drop_append_of_le_length (by omega), List.take_append_of_le_length (by simp; omega)]
        have hld := run_load_cells (P := P) hw e1 (by simp; omega)
        exact ⟨((vs.drop o).take (n * es)).toArray, by simp only [Builtin.firstCells, hld], by simpa using cvs_take _ (cvs_drop o hcs)⟩
      · rw [if_neg hle] at h; simp at h
    · simp at h
  case etail b o k s =>
    subst h
    simp only [lenA, Option.some.injEq] at hm
    have : n = 0 := by omega
    subst this
    simp only [cv, Option.map_eq_some_iff] at hy; obtain ⟨l, hl, rfl⟩ := hy
    exact ⟨#[], by simp [Builtin.firstCells, loadCells, loadCellsFrom], rfl⟩
  case nils =>
    subst h
    simp only [cv, Option.some.injEq] at hy; subst hy
    exact ⟨#[], by simp [Builtin.firstCells], rfl⟩

theorem grow_le (n : Nat) : ∀ (r c : Nat), c < n → Builtin.growBy n r c ≤ 2 * n + 192
  | 0, c, h => by simp [Builtin.growBy]; omega
  | r + 1, c, h => by
    simp only [Builtin.growBy]
    by_cases hc : c ≥ n
    · omega
    · rw [if_neg hc]
      by_cases h2 : c + (c + 768) / 4 < n
      · exact grow_le n r _ h2
      · cases r with
        | zero => simp only [Builtin.growBy]; omega
        | succ r => simp only [Builtin.growBy]; rw [if_pos (by omega)]; omega
theorem nextcap_le {need cap : Nat} (h : cap < need) : Builtin.nextslicecap need cap ≤ 3 * need := by
  unfold Builtin.nextslicecap
  split
  · omega
  · split
    · omega
    · have := grow_le need 4 cap h
      omega

/-- What append comes to where it grows. -/
theorem grow_run {w : World} {E : Env} {H : AHeap} (R : Rel E H w) {ts : Array TypeId} {t u e : TypeId} (ht : ts[0]? = some t) (hu : ts[1]? = some u) (htd : P.underlying t = some (.slice e)) (hud : ∃ d, P.underlying u = some d ∧ ∀ k, d ≠ .int k)
    {es by_ : Nat} (hs : sizeT P e = some es) (hby : bytesT P e = some by_) {z : List AVal} (hz : zeroC P e = some z) (hzl : z.length = es) {base : Option Addr} {len cap n : Nat} {xv : Value} (hn : (Builtin.lenOf xv).run P w = .ok n w) (hroom : cap < len + n)
    (hb1 : (len + n) * by_ ≤ 2 ^ 44) (hb2 : len + n ≤ 2 ^ 44) {old new : Array Value} (ho : (Builtin.firstCells es len (.slice base len cap)).run P { w with drawn := w.drawn + 1 } = .ok old { w with drawn := w.drawn + 1 }) (hnw : (Builtin.firstCells es n xv).run P { w with drawn := w.drawn + 1 } = .ok new { w with drawn := w.drawn + 1 }) (hol : old.size = len * es) (hnl : new.size = n * es) (ty : TypeId) :
    ∃ (c : Nat) (rest : List Value) (w' : World), (Builtin.append_ ts ty #[.slice base len cap, xv]).run P w = .ok (.slice (some ⟨w.heap.size, 0, none⟩) (len + n) c) w' ∧
      WNew w w' (.cells ((old ++ new) ++ rest.toArray) e (0, 0)) ∧ len + n ≤ c ∧ ((old ++ new) ++ rest.toArray).size = c * es := by
  obtain ⟨d, hud, hni⟩ := hud
  obtain ⟨zv, hzr, hzc⟩ := run_zeroC hz { w with drawn := w.drawn + 1 }
  have hzlen : zv.cells.size = es := by have := cvs_length (hzc E); simp at this; omega
  obtain ⟨inf, hinf, hinfb⟩ : ∃ i, P.info? e = some i ∧ i.bytes = by_ := by simpa [bytesT] using hby
  have hcap := nextcap_le hroom
  have h48 : ¬ (Builtin.nextslicecap (len + n) cap * by_ > 2 ^ 48) := by
    have : Builtin.nextslicecap (len + n) cap * by_ ≤ 3 * (len + n) * by_ := Nat.mul_le_mul_right _ hcap
    rw [Nat.mul_assoc] at this
    omega
  have hmax : ¬ (((len + n : Nat) : Int) > IntKind.i64.max ∧ (by_ = 0)) := by
    have e3 : IntKind.i64.max = 9223372036854775807 := by decide
    rw [e3]; omega
  let c := len + n + w.tape w.drawn (.appendCap (len + n) cap e) % (2 ^ 63 - (len + n))
  let rest : Array Value := Builtin.zeroCells zv.cells (c - (len + n))
  have hrest : rest.size = (c - (len + n)) * es := by simp [rest, Builtin.zeroCells, hzlen]
  refine ⟨c, rest.toList, { w with heap := w.heap.push (.cells ((old ++ new) ++ rest) e (0, 0)), drawn := w.drawn + 1 }, ?_, by simpa using WNew.push w (.cells ((old ++ new) ++ rest) e (0, 0)) (w.drawn + 1), by simp [c], ?_⟩
  · have hneed : ¬ (len + n ≤ cap) := by omega
    simp only [Builtin.append_, ht, hu, List.getElem?_toArray, List.getElem?_cons_zero, List.getElem?_cons_succ, Sem.run_bind, run_underlying htd, Result.andThen_ok, run_sizeT hs, run_underlying hud, Sem.run_pure]
    cases d <;> first | exact absurd rfl (hni _) | skip
    all_goals
      simp only [Bool.false_eq_true, if_false, hn, Result.andThen_ok, Sem.run_ite, if_neg hneed, Bool.not_false, if_true, run_typeInfo w hinf, hinfb, Sem.run_bind, false_or, Sem.run_pure]
      rw [if_neg (by simpa using hmax)]
      (try simp only [Sem.run_pure, Result.andThen_ok, Sem.run_bind, run_typeInfo w hinf, hinfb, Sem.run_ite])
      rw [if_neg h48]
      simp only [run_choose, Question.forced, Question.cut, Bool.false_eq_true, if_false, Sem.run_pure, Result.andThen_ok, Sem.run_bind, run_typeInfo _ hinf, run_askRoom, ho, hnw, hzr, newRow, run_newObj]
      rfl
  · simp only [Array.size_append, hol, hnl, List.size_toArray, Array.length_toList, hrest]
    rw [← Nat.add_mul, ← Nat.add_mul]
    congr 1
    simp [c]

theorem place_run {w w' : World} {ts : Array TypeId} {t u e : TypeId} (ht : ts[0]? = some t) (hu : ts[1]? = some u) (htd : P.underlying t = some (.slice e)) (hud : ∃ d, P.underlying u = some d ∧ ∀ k, d ≠ .int k)
    {es : Nat} (hs : sizeT P e = some es) {base : Option Addr} {len cap n : Nat} {xv : Value} (hn : (Builtin.lenOf xv).run P w = .ok n w) (hroom : len + n ≤ cap) {new : Array Value} (hnw : (Builtin.firstCells es n xv).run P w = .ok new w)
    (hst : ∀ a, base = some a → (storeCells (a.add (len * es)) new.toList).run P w = .ok () w') (hno : base = none → w' = w) (ty : TypeId) :
    (Builtin.append_ ts ty #[.slice base len cap, xv]).run P w = .ok (.slice base (len + n) cap) w' := by
  obtain ⟨d, hud, hni⟩ := hud
  simp only [Builtin.append_, ht, hu, List.getElem?_toArray, List.getElem?_cons_zero, List.getElem?_cons_succ, Sem.run_bind, run_underlying htd, Result.andThen_ok, run_sizeT hs, run_underlying hud, Sem.run_pure]
  cases d <;> first | exact absurd rfl (hni _) | skip
  all_goals
    simp only [Bool.false_eq_true, if_false, hn, Result.andThen_ok, Sem.run_ite, if_pos hroom, Bool.not_false, if_true, hnw, Sem.run_bind, Sem.run_pure]
    cases base with
    | none => simp [hno rfl]
    | some a => simp [hst a rfl]

theorem elastic_room {o need es L tot : Nat} (hes : 0 < es) (h : o + need * es ≤ L) (hL : L ≤ tot) : need ≤ (tot - o) / es := by
  rw [Nat.le_div_iff_mul_le hes]; omega

set_option maxHeartbeats 4000000 in
theorem append_sound {E : Env} {H H' : AHeap} {w : World} (R : Rel E H w) {ts : Array TypeId} {t u e : TypeId} (ht : ts[0]? = some t) (hu : ts[1]? = some u) (htd : P.underlying t = some (.slice e)) (hud : ∃ d, P.underlying u = some d ∧ ∀ k, d ≠ .int k)
    {es by_ : Nat} (hs : sizeT P e = some es) (hby : bytesT P e = some by_) {z : List AVal} (hz : zeroC P e = some z) (hzl : z.length = es) {x y v : AVal} {xv yv : Value} (hx : cv E x = some xv) (hy : cv E y = some yv)
    (h : appendA H e es by_ x y = some (v, H')) (hF : Fresh E H.n H'.n) (ty : TypeId) :
    ∃ q w' E', (Builtin.append_ ts ty #[xv, yv]).run P w = .ok q w' ∧ Ext E H w E' H' w' ∧ Rel E' H' w' ∧ cv E' v = some q := by
  simp only [appendA, Option.bind_eq_some_iff] at h
  obtain ⟨n, hn, new, hnew, h⟩ := h
  by_cases hcond : new.all AVal.isCell = true ∧ new.length = n * es ∧ 0 < es
  case neg => rw [if_neg hcond] at h; simp at h
  rw [if_pos hcond] at h
  obtain ⟨hcell, hnl, hpos⟩ := hcond
  have hlenr : ∀ k, (Builtin.lenOf yv).run P { w with drawn := k } = .ok n { w with drawn := k } := fun k => lenA_sound hy hn _
  obtain ⟨narr, hnr, hnc⟩ := srcCells_sound (P := P) (R.drew w.drawn) hy hn (Nat.le_refl n) hnew
  have hnr1 : ∀ k, ∃ arr : Array Value, (Builtin.firstCells es n yv).run P { w with drawn := k } = .ok arr { w with drawn := k } ∧ cvs E new = some arr.toList := fun k => srcCells_sound (P := P) (R.drew k) hy hn (Nat.le_refl n) hnew
  have hnsz : narr.size = n * es := by have := cvs_length hnc; simp at this; omega
  -- a new block that holds elder cells and the new ones
  have grow : ∀ (base : Option Addr) (len cap : Nat) (oldA : List AVal), cap < len + n → (len + n) * by_ ≤ 2 ^ 44 → len + n ≤ 2 ^ 44 →
      (∃ old : Array Value, (Builtin.firstCells es len (.slice base len cap)).run P { w with drawn := w.drawn + 1 } = .ok old { w with drawn := w.drawn + 1 } ∧ cvs E oldA = some old.toList ∧ old.size = len * es) →
      E H.n = none →
      ∃ (q : Value) (w' : World) (l : Loc × Array Value), (Builtin.append_ ts ty #[.slice base len cap, yv]).run P w = .ok q w' ∧ WNew w w' (Obj.cells (l.2) e (0, 0)) ∧ l.1.blk = w.heap.size ∧
        (∀ E', E.le E' → E' H.n = some l.1 → cv E' (.sl H.n 0 (len + n) none) = some q ∧ BRel E' l.1 (some (Obj.cells l.2 e (0, 0))) (.cells (oldA ++ new) e es .elastic)) := by
    intro base len cap oldA hroom hb1 hb2 ⟨old, ho, hoc, hol⟩ hid
    obtain ⟨narr', hnr', hnc'⟩ := hnr1 (w.drawn + 1)
    have hnsz' : narr'.size = n * es := by have := cvs_length hnc'; simp at this; omega
    obtain ⟨c, rest, w', hrun, hW, hcle, hsz⟩ := grow_run (P := P) (H := H) R ht hu htd hud hs hby hz hzl (hlenr w.drawn) hroom hb1 hb2 ho hnr' hol hnsz' ty
    refine ⟨_, w', (⟨w.heap.size, c * es, es⟩, (old ++ narr') ++ rest.toArray), hrun, hW, rfl, fun E' le hid' => ⟨?_, ?_⟩⟩
    · simp only [cv, hid', Option.map_some, Nat.sub_zero, Nat.mul_div_cancel _ hpos]
    · refine ⟨_, _, old.toList ++ narr'.toList, rfl, cvs_mono le _ _ (cvs_append hoc hnc'), hsz.symm, rfl, ⟨rest, by simp, fun k => absurd rfl k⟩, fun _ => .inl rfl, fun _ => hpos⟩
  cases x with
  | nils =>
    simp only [cv, Option.some.injEq] at hx; subst hx
    simp only [] at h
    by_cases hn0 : n = 0
    · rw [if_pos hn0] at h
      simp only [Option.some.injEq, Prod.mk.injEq] at h
      obtain ⟨rfl, rfl⟩ := h
      subst hn0
      refine ⟨.slice none 0 0, w, E, ?_, Ext.refl E H w, R, rfl⟩
      exact place_run (w' := w) ht hu htd hud hs (hlenr w.drawn) (Nat.le_refl _) hnr (fun a k => by simp at k) (fun _ => rfl) ty
    · rw [if_neg hn0] at h
      by_cases hb : n * by_ ≤ 2 ^ 44 ∧ n ≤ 2 ^ 44
      case neg => rw [if_neg hb] at h; simp at h
      rw [if_pos hb] at h
      simp only [Option.some.injEq, Prod.mk.injEq] at h
      obtain ⟨rfl, rfl⟩ := h
      have hid : E H.n = none := hF H.n (Nat.le_refl _) (by simp)
      obtain ⟨q, w', l, h1, h2, h3, h4⟩ := grow none 0 0 [] (by omega) (by simpa using hb.1) (by simpa using hb.2) ⟨#[], by simp [Builtin.firstCells], rfl, by simp⟩ hid
      refine ⟨q, w', E.upd H.n l.1, h1, Ext.made hid h3 h2, ?_, ?_⟩
      · exact R.made hid h3 h2 (fun E' le hl => by simpa using (h4 E' le hl).2) (by rw [AHeap.get_push, if_pos rfl]) (fun b hb _ => by rw [AHeap.get_push, if_neg hb])
      · have := (h4 (E.upd H.n l.1) (Env.le_upd hid) (Env.upd_at _ _ _)).1
        simpa using this
  | sl b o len cap =>
    simp only [] at h
    split at h
    · rename_i l e' s m hb
      have hxl : ∃ loc cc, E b = some loc ∧ xv = .slice (some ⟨loc.blk, o, none⟩) len cc ∧ (∀ c, cap = some c → cc = c) ∧ (cap = none → cc = (loc.tot - o) / loc.es) := by
        cases cap with
        | some c => simp only [cv, Option.map_eq_some_iff] at hx; obtain ⟨loc, hloc, hx⟩ := hx; exact ⟨loc, c, hloc, hx.symm, fun _ h => by simpa using h, fun h => by simp at h⟩
        | none => simp only [cv, Option.map_eq_some_iff] at hx; obtain ⟨loc, hloc, hx⟩ := hx; exact ⟨loc, _, hloc, hx.symm, fun _ h => by simp at h, fun _ => rfl⟩
      obtain ⟨loc, cc, hloc, rfl, hcap1, hcap2⟩ := hxl
      obtain ⟨arr, fz, vs, hw, hcs, htot, hes, ⟨rest, harr, hrest⟩, hfz, hposm⟩ := R.cells hloc hb
      have hlen := cvs_length hcs
      have harrsz : arr.size = vs.length + rest.length := by rw [← Array.length_toList, harr]; simp
      by_cases hroom : roomA cap m s es o (len + n) l.length = true
      · rw [if_pos hroom] at h
        by_cases hn0 : n = 0
        · rw [if_pos hn0] at h
          simp only [Option.some.injEq, Prod.mk.injEq] at h
          obtain ⟨rfl, rfl⟩ := h
          subst hn0
          have hnil : narr.toList = [] := by
            have : narr.size = 0 := by omega
            simpa using this
          by_cases hle : len ≤ cc
          · refine ⟨_, w, E, place_run (w' := w) ht hu htd hud hs (hlenr w.drawn) hle hnr (fun a k => by simp [hnil, storeCells]) (fun _ => rfl) ty, Ext.refl E H w, R, ?_⟩
            simpa using hx
          · exfalso
            cases cap with
            | some c => have := hcap1 c rfl; simp [roomA] at hroom; omega
            | none =>
              have hc := hcap2 rfl
              obtain ⟨_, hse, hroom⟩ := of_decide_eq_true hroom
              have := elastic_room (need := len) hpos (by simpa using hroom) (show l.length ≤ loc.tot by omega)
              rw [hc, hes, hse] at hle; omega
        · rw [if_neg hn0] at h
          simp only [Option.map_eq_some_iff, Prod.mk.injEq] at h
          obtain ⟨H1, hst, rfl, rfl⟩ := h
          obtain ⟨w', h1, h2, h3⟩ := store_sound (P := P) R hloc hnc hst
          have hle : len + n ≤ cc := by
            cases cap with
            | some c => have := hcap1 c rfl; simp [roomA] at hroom; omega
            | none =>
              have hc := hcap2 rfl
              obtain ⟨_, hse, hroom⟩ := of_decide_eq_true hroom
              have := elastic_room (need := len + n) hpos hroom (show l.length ≤ loc.tot by omega)
              rw [hc, hes, hse]; exact this
          refine ⟨_, w', E, place_run (w' := w') ht hu htd hud hs (hlenr w.drawn) hle hnr (fun a k => by simp only [Option.some.injEq] at k; subst k; rw [add_plain]; exact h1) (fun k => by simp at k) ty, h3, h2, ?_⟩
          cases cap with
          | some c => simp [cv, hloc, hcap1 c rfl]
          | none => simp [cv, hloc, hcap2 rfl]
      · rw [if_neg hroom] at h
        by_cases hg : e' = e ∧ s = es ∧ o + len * es ≤ l.length ∧ (len + n) * by_ ≤ 2 ^ 44 ∧ len + n ≤ 2 ^ 44 ∧ m ≠ .ro
        case neg => rw [if_neg hg] at h; simp at h
        rw [if_pos hg] at h
        obtain ⟨he, hse, hol, hb1, hb2, hro⟩ := hg
        subst he; subst hse
        have oldc : ∃ old : Array Value, (Builtin.firstCells s len (.slice (some ⟨loc.blk, o, none⟩) len cc)).run P { w with drawn := w.drawn + 1 } = .ok old { w with drawn := w.drawn + 1 } ∧ cvs E ((l.drop o).take (len * s)) = some old.toList ∧ old.size = len * s := by
          have hsrc : srcCells H s (.sl b o len cap) len = some ((l.drop o).take (len * s)) := by simp [srcCells, hb, hol]
          obtain ⟨old, h1, h2⟩ := srcCells_sound (P := P) (R.drew (w.drawn + 1)) hx rfl (Nat.le_refl _) hsrc
          refine ⟨old, h1, h2, ?_⟩
          have := cvs_length h2
          simp at this; omega
        cases cap with
        | some c =>
          cases m with
          | fixed =>
            simp only [Option.some.injEq, Prod.mk.injEq] at h
            obtain ⟨rfl, rfl⟩ := h
            have hid : E H.n = none := hF H.n (Nat.le_refl _) (by simp)
            have hlt : cc < len + n := by have := hcap1 c rfl; simp [roomA] at hroom; omega
            obtain ⟨q, w', l1, h1, h2, h3, h4⟩ := grow _ len cc _ hlt hb1 hb2 oldc hid
            refine ⟨q, w', E.upd H.n l1.1, h1, Ext.made hid h3 h2, ?_, (h4 _ (Env.le_upd hid) (Env.upd_at _ _ _)).1⟩
            exact R.made hid h3 h2 (fun E' le hl => (h4 E' le hl).2) (by rw [AHeap.get_push, if_pos rfl]) (fun b hb _ => by rw [AHeap.get_push, if_neg hb])
          | _ => simp at h
        | none =>
          cases m with
          | elastic =>
            simp only [] at h
            by_cases ho : o = 0
            case neg => rw [if_neg ho] at h; simp at h
            rw [if_pos ho] at h
            simp only [Option.some.injEq, Prod.mk.injEq] at h
            obtain ⟨rfl, rfl⟩ := h
            subst ho
            have hid : E H.n = none := hF H.n (Nat.le_refl _) (by simp)
            have hbn : b ≠ H.n := by intro k; rw [k] at hloc; simp [hid] at hloc
            have hrw : (H.get b).rw = true := by rw [hb]; rfl
            have hc := hcap2 rfl
            simp only [List.drop_zero] at oldc
            by_cases hle : len + n ≤ cc
            · -- in place
              have hfit : (len + n) * s ≤ arr.size := by
                rw [hc, hes, htot, Nat.sub_zero] at hle
                exact (Nat.le_div_iff_mul_le hpos).1 hle
              rw [Nat.add_mul] at hfit
              obtain ⟨w', brr, h1, h2, h3, h4⟩ := run_storeCells (P := P) (o := len * s) narr.toList 0 w arr hw (hfz hro) (by simp only [Array.length_toList]; omega) (cvs_cellsAll hnc hcell)
              have hB : ∀ E', E.le E' → BRel E' loc (some (.cells brr e' fz)) (.cells (l.take (len * s) ++ new) e' s .elastic) := by
                intro E' le
                refine ⟨brr, fz, vs.take (len * s) ++ narr.toList, rfl, cvs_mono le _ _ (cvs_append (cvs_take _ hcs) hnc), by rw [htot, h3], hes, ⟨arr.toList.drop (len * s + narr.toList.length), ?_, fun k => absurd rfl k⟩, fun k => by rw [h3]; exact hfz k, fun _ => hpos⟩
                rw [h4]
                simp only [Nat.add_zero]
                congr 2
                rw [harr, List.take_append_of_le_length (by simp only [Nat.zero_add] at hol; omega)]
              refine ⟨_, w', E.upd H.n loc, place_run (w' := w') ht hu htd hud hs (hlenr w.drawn) hle hnr (fun a k => by simp only [Option.some.injEq] at k; subst k; rw [add_plain, Nat.zero_add]; exact h1) (fun k => by simp at k) ty, ?_, ?_, ?_⟩
              · exact Ext.moved hid hloc hrw h2 rfl
              · exact R.moved hid hloc hrw h2 hB rfl
              · simp only [cv, Env.upd_at, Option.map_some, ← hc]
            · obtain ⟨q, w', l1, h1, h2, h3, h4⟩ := grow _ len cc _ (by omega) hb1 hb2 oldc hid
              have hn' : (H.set b .dead).n = H.n := rfl
              refine ⟨q, w', E.upd H.n l1.1, h1, (Ext.kill E H w b).trans (Ext.made (H := H.set b .dead) hid h3 h2), ?_, (h4 _ (Env.le_upd hid) (Env.upd_at _ _ _)).1⟩
              exact (R.kill b).made hid h3 h2 (fun E' le hl => (h4 E' le hl).2) (by rw [← hn', AHeap.get_push, if_pos rfl]) (fun b' hb' _ => by rw [AHeap.get_push, if_neg (by rw [hn']; exact hb')])
          | _ => simp at h
    · simp at h
  | _ => simp at h
end Go.Eng

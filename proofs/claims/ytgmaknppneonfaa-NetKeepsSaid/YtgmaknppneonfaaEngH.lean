/- The engine, eighth part: heaps and worlds; operations that read, and that make blocks, are sound. -/
import Derived.Test.YtgmaknppneonfaaEngG
set_option linter.unusedSimpArgs false
set_option linter.unusedVariables false
namespace Go.Eng
variable {P : Program}

def cvm (E : Env) : List (AVal × AVal) → Option (List (Value × Value))
  | [] => some []
  | (k, v) :: l => (cv E k).bind fun x => (cv E v).bind fun y => (cvm E l).map fun r => (x, y) :: r
theorem cvm_mono {E E' : Env} (h : E.le E') : ∀ (l : List (AVal × AVal)) (r : List (Value × Value)), cvm E l = some r → cvm E' l = some r
  | [], r, e => by simpa [cvm] using e
  | (k, v) :: l, r, e => by
    simp only [cvm, Option.bind_eq_some_iff, Option.map_eq_some_iff] at e ⊢
    obtain ⟨x, hx, y, hy, z, hz, e⟩ := e
    exact ⟨x, cv_mono h _ _ hx, y, cv_mono h _ _ hy, z, cvm_mono h _ _ hz, e⟩

/-- A block in the world, and what the engine knows of it. -/
def BRel (E : Env) (l : Loc) (o : Option Obj) : ABlk → Prop
  | .dead => True
  | .cells cs elem es m => ∃ arr fz vs, o = some (.cells arr elem fz) ∧ cvs E cs = some vs ∧ l.tot = arr.size ∧ l.es = es ∧ (∃ rest, arr.toList = vs ++ rest ∧ (m ≠ .elastic → rest = [])) ∧ (m ≠ .ro → fz.1 = fz.2 ∨ arr.size ≤ fz.1) ∧ (m = .elastic → 0 < es)
  | .map es => ∃ arr clock, o = some (.map arr clock) ∧ cvm E es = some (arr.toList.map fun e => (e.key, e.val))
theorem BRel.mono {E E' : Env} (h : E.le E') {l : Loc} {o : Option Obj} : ∀ {b : ABlk}, BRel E l o b → BRel E' l o b
  | .dead, _ => trivial
  | .cells .., ⟨arr, fz, vs, h1, h2, h3⟩ => ⟨arr, fz, vs, h1, cvs_mono h _ _ h2, h3⟩
  | .map .., ⟨arr, c, h1, h2⟩ => ⟨arr, c, h1, cvm_mono h _ _ h2⟩

structure Rel (E : Env) (H : AHeap) (w : World) : Prop where
  blk : ∀ b l, E b = some l → BRel E l (w.heap[l.blk]?) (H.get b)
  inj : ∀ b c l k, E b = some l → E c = some k → l.blk = k.blk → (H.get b).rw = true → (H.get c).alive = true → b = c
  lt : ∀ b l, E b = some l → l.blk < w.heap.size

structure Ext (E : Env) (H : AHeap) (w : World) (E' : Env) (H' : AHeap) (w' : World) : Prop where
  le : E.le E'
  new : ∀ b l, E' b = some l → E b = none → H.n ≤ b ∧ b < H'.n
  all : ∀ b, H.n ≤ b → b < H'.n → E' b ≠ none
  n : H.n ≤ H'.n
  size : w.heap.size ≤ w'.heap.size
  os : w'.os = w.os
  tape : w'.tape = w.tape
  output : w'.output = w.output
  frame : ∀ c, c < w.heap.size → (∀ b l, E b = some l → l.blk = c → (H.get b).rw = false) → w'.heap[c]? = w.heap[c]?
  loc : ∀ b l, E' b = some l → E b = none → w.heap.size ≤ l.blk ∨ ∃ c k, E c = some k ∧ k.blk = l.blk ∧ (H.get c).rw = true
  mono : ∀ b, E b ≠ none → (H.get b).rw = false → (H'.get b).rw = false
  dead : ∀ b, E b ≠ none → (H.get b).alive = false → (H'.get b).alive = false
theorem Ext.refl (E : Env) (H : AHeap) (w : World) : Ext E H w E H w :=
  ⟨Env.le_refl E, fun b l h k => by simp [h] at k, fun b h k => by omega, Nat.le_refl _, Nat.le_refl _, rfl, rfl, rfl, fun _ _ _ => rfl, fun b l h k => by simp [h] at k, fun _ _ h => h, fun _ _ h => h⟩
theorem Ext.drew (E : Env) (H : AHeap) (w : World) (n : Nat) : Ext E H w E H { w with drawn := n } :=
  ⟨Env.le_refl E, fun b l h k => by simp [h] at k, fun b h k => by omega, Nat.le_refl _, Nat.le_refl _, rfl, rfl, rfl, fun _ _ _ => rfl, fun b l h k => by simp [h] at k, fun _ _ h => h, fun _ _ h => h⟩
theorem Rel.drew {E : Env} {H : AHeap} {w : World} (h : Rel E H w) (n : Nat) : Rel E H { w with drawn := n } := ⟨h.blk, h.inj, h.lt⟩
theorem Ext.trans {E F G : Env} {H I J : AHeap} {u v w : World} (h : Ext E H u F I v) (k : Ext F I v G J w) : Ext E H u G J w where
  le := Env.le_trans h.le k.le
  new b l hb he := by
    cases hf : F b with
    | none => have := k.new b l hb hf; have := h.n; omega
    | some m => have := h.new b m hf he; have := k.n; omega
  all b h1 h2 := by
    rcases Nat.lt_or_ge b I.n with hb | hb
    · cases hf : F b with
      | none => exact absurd hf (h.all b h1 hb)
      | some m => rw [k.le b m hf]; simp
    · exact k.all b hb h2
  n := Nat.le_trans h.n k.n
  size := Nat.le_trans h.size k.size
  os := k.os.trans h.os
  tape := k.tape.trans h.tape
  output := k.output.trans h.output
  frame c hc hE := by
    rw [k.frame c (Nat.lt_of_lt_of_le hc h.size) ?_]
    · exact h.frame c hc hE
    · intro b l hb hl
      cases he : E b with
      | none =>
        rcases h.loc b l hb he with h1 | ⟨d, m, h1, h2, h3⟩
        · omega
        · have := hE d m h1 (by omega); simp [this] at h3
      | some m =>
        have := h.le b m he
        rw [this] at hb; simp only [Option.some.injEq] at hb; subst hb
        exact h.mono b (by simp [he]) (hE b m he hl)
  loc b l hb he := by
    cases hf : F b with
    | none =>
      rcases k.loc b l hb hf with h1 | ⟨c, m, h1, h2, h3⟩
      · exact .inl (Nat.le_trans h.size h1)
      · cases hc : E c with
        | none => rw [← h2]; exact h.loc c m h1 hc
        | some q =>
          have := h.le c q hc
          rw [this] at h1; simp only [Option.some.injEq] at h1; subst h1
          refine .inr ⟨c, q, hc, h2, ?_⟩
          cases hr : (H.get c).rw with
          | true => rfl
          | false => have := h.mono c (by simp [hc]) hr; simp [this] at h3
    | some m =>
      have := k.le b m hf
      rw [this] at hb; simp only [Option.some.injEq] at hb; subst hb
      exact h.loc b m hf he
  mono b hb hr := by
    refine k.mono b ?_ (h.mono b hb hr)
    cases he : E b with
    | none => exact absurd he hb
    | some m => rw [h.le b m he]; simp
  dead b hb hr := by
    refine k.dead b ?_ (h.dead b hb hr)
    cases he : E b with
    | none => exact absurd he hb
    | some m => rw [h.le b m he]; simp

def AHeap.wf (H : AHeap) : Prop := ∀ b, H.n ≤ b → H.get b = .dead
theorem AHeap.wf.push {H : AHeap} (h : H.wf) (x : ABlk) : (H.push x).wf := by
  intro b hb
  simp at hb
  rw [AHeap.get_push, if_neg (by omega)]
  exact h b (by omega)
theorem AHeap.wf.set {H : AHeap} (h : H.wf) {b : Nat} {x : ABlk} (hb : (H.get b).alive = true ∨ x = .dead) : (H.set b x).wf := by
  intro c hc
  simp at hc
  rw [AHeap.get_set]
  by_cases e : c = b
  · subst e
    rcases hb with hb | hb
    · rw [h c hc] at hb; simp [ABlk.alive] at hb
    · rw [if_pos rfl]; exact hb
  · rw [if_neg e]; exact h c hc
def Fresh (E : Env) (a b : Nat) : Prop := ∀ c, a ≤ c → c < b → E c = none
theorem Fresh.left {E : Env} {a b c : Nat} (h : Fresh E a c) (hb : b ≤ c) : Fresh E a b := fun d h1 h2 => h d h1 (by omega)
theorem Fresh.right {E F : Env} {H I : AHeap} {u v : World} (h : Ext E H u F I v) {c : Nat} (hf : Fresh E H.n c) : Fresh F I.n c := by
  intro d h1 h2
  cases hd : F d with
  | none => rfl
  | some l =>
    have h3 := h.n
    have h4 := h.new d l hd (hf d (by omega) h2)
    omega

/-! ### Reading -/
theorem Rel.cells {E : Env} {H : AHeap} {w : World} (R : Rel E H w) {b : Nat} {l : Loc} (hl : E b = some l) {cs : List AVal} {e : TypeId} {es : Nat} {m : Mode} (hb : H.get b = .cells cs e es m) :
    ∃ arr fz vs, w.heap[l.blk]? = some (.cells arr e fz) ∧ cvs E cs = some vs ∧ l.tot = arr.size ∧ l.es = es ∧ (∃ rest, arr.toList = vs ++ rest ∧ (m ≠ .elastic → rest = [])) ∧ (m ≠ .ro → fz.1 = fz.2 ∨ arr.size ≤ fz.1) ∧ (m = .elastic → 0 < es) := by
  have := R.blk b l hl
  rw [hb] at this
  exact this
theorem cell_of {w : World} {c o : Nat} {arr : Array Value} {e : TypeId} {fz : Nat × Nat} (h : w.heap[c]? = some (.cells arr e fz)) : w.cell? ⟨c, o, none⟩ = arr[o]? := by
  simp [World.cell?, h]
theorem run_load_cells {w : World} {c : Nat} {arr : Array Value} {e : TypeId} {fz : Nat × Nat} (h : w.heap[c]? = some (.cells arr e fz)) {o n : Nat} {vs : List Value} (hv : (arr.toList.drop o).take n = vs) (hn : vs.length = n) :
    (loadCells ⟨c, o, none⟩ n).run P w = .ok vs.toArray w := by
  rw [← hn]
  refine run_loadCells_list w _ vs fun j v hj => ?_
  rw [add_plain, cell_of h, ← Array.getElem?_toList]
  rw [← hv] at hj
  rw [List.getElem?_take] at hj
  split at hj
  · simpa [List.getElem?_drop] using hj
  · simp at hj
theorem run_loadVar_at {E : Env} {H : AHeap} {w : World} (R : Rel E H w) {b o s : Nat} {l : Loc} (hl : E b = some l) {t : TypeId} {d : TypeDesc} (hu : P.underlying t = some d) (hs : aggT P t = true → sizeT P t = some s) (h1 : aggT P t = false → s = 1) {v : AVal} (hv : ABlk.read (aggT P t) o s (H.get b) = some v) :
    ∃ x, (loadVar t ⟨l.blk, o, none⟩).run P w = .ok x w ∧ cv E v = some x := by
  cases hb : H.get b with
  | dead => rw [hb] at hv; simp [ABlk.read] at hv
  | map es => rw [hb] at hv; simp [ABlk.read] at hv
  | cells cs e es m =>
    rw [hb] at hv
    obtain ⟨arr, fz, vs, hw, hcs, _, _, ⟨rest, harr, _⟩, _⟩ := R.cells hl hb
    simp only [ABlk.read, partA] at hv
    have hlen := cvs_length hcs
    simp only [loadVar, Sem.run_bind, run_aggT hu, Result.andThen_ok]
    by_cases ha : aggT P t = true
    · rw [if_pos ha] at hv ⊢
      by_cases hle : o + s ≤ cs.length
      · rw [if_pos hle] at hv
        simp only [Option.some.injEq] at hv; subst hv
        have e1 : (arr.toList.drop o).take s = (vs.drop o).take s := by
          rw [harr, List.drop_append_of_le_length (by omega), List.take_append_of_le_length (by simp; omega)]
        have hld := run_load_cells (P := P) hw e1 (by simp; omega)
        refine ⟨.agg ((vs.drop o).take s).toArray, by simp [run_sizeT (hs ha), hld], ?_⟩
        simp [cv, cvs_take s (cvs_drop o hcs)]
      · rw [if_neg hle] at hv; simp at hv
    · rw [if_neg ha] at hv ⊢
      obtain ⟨x, hx, hc⟩ := cvs_get hcs hv
      have : w.cell? ⟨l.blk, o, none⟩ = some x := by
        have hlt : o < vs.length := by
          rcases Nat.lt_or_ge o vs.length with h | h
          · exact h
          · rw [List.getElem?_eq_none h] at hx; simp at hx
        rw [cell_of hw, ← Array.getElem?_toList, harr, List.getElem?_append_left hlt]; exact hx
      exact ⟨x, by simp [this], hc⟩
theorem findK_sound {E : Env} {k : CT} {kt : TypeId} (hk : ctOf P kt = some k) {i : AVal} {iv : Value} (hi : cv E i = some iv) {w : World} : ∀ {es : List (AVal × AVal)} {r : Option AVal} (ms : List MapEntry) (n : Nat),
    findK k i es = some r → cvm E es = some (ms.map fun e => (e.key, e.val)) → ∃ d, P.underlying kt = some d ∧
      ((r = none ∧ Instr.findNow d iv ms n = some none) ∨ ∃ v j x, r = some v ∧ Instr.findNow d iv ms n = some (some (j, x)) ∧ cv E v = some x)
  | [], r, ms, n, h, hm => by
    simp only [findK, Option.some.injEq] at h; subst h
    simp only [cvm, Option.some.injEq] at hm
    have : ms = [] := by cases ms with | nil => rfl | cons a l => simp at hm
    subst this
    unfold ctOf at hk
    cases hu : P.underlying kt with
    | none => simp [hu] at hk
    | some d => exact ⟨d, rfl, .inl ⟨rfl, rfl⟩⟩
  | (a, v) :: es, r, ms, n, h, hm => by
    simp only [findK, Option.bind_eq_some_iff] at h
    obtain ⟨q, hq, h⟩ := h
    simp only [cvm, Option.bind_eq_some_iff, Option.map_eq_some_iff] at hm
    obtain ⟨x, hx, y, hy, z, hz, hm⟩ := hm
    cases ms with
    | nil => simp at hm
    | cons e ms =>
      simp only [List.map_cons, List.cons.injEq, Prod.mk.injEq] at hm
      obtain ⟨⟨rfl, rfl⟩, hm⟩ := hm
      have same : ∀ d, P.underlying kt = some d → Instr.sameNow d iv e.key = some q := by
        intro d hd
        unfold ctOf at hk
        rw [hd] at hk
        cases k with
        | bool =>
          cases i <;> cases a <;> simp only [cellEq, Option.some.injEq, reduceCtorEq] at hq
          simp only [cv, Option.some.injEq] at hi hx
          cases d <;> simp at hk
          rw [← hi, ← hx, ← hq]; rfl
        | int k =>
          cases i <;> cases a <;> simp only [cellEq, Option.some.injEq, reduceCtorEq] at hq
          simp only [cv, Option.some.injEq] at hi hx
          split at hq
          · split at hq
            · rename_i h1 h2
              subst h1
              simp only [Option.some.injEq] at hq
              cases d <;> simp at hk
              rw [← hi, ← hx, ← hq, h2]; simp [Instr.sameNow]
            · simp at hq
          · simp at hq
        | str =>
          cases i <;> cases a <;> simp only [cellEq, Option.some.injEq, reduceCtorEq] at hq
          simp only [cv, Option.some.injEq] at hi hx
          cases d <;> simp at hk
          rw [← hi, ← hx, ← hq]
          simp only [Instr.sameNow, Option.some.injEq]
          rw [beq_toListBytes, ByteArray.toList_eq, ByteArray.toList_eq]
      cases q with
      | true =>
        simp only [if_true, Option.some.injEq] at h; subst h
        have hu : ∃ d, P.underlying kt = some d := by
          unfold ctOf at hk
          cases hu : P.underlying kt with
          | none => simp [hu] at hk
          | some d => exact ⟨d, rfl⟩
        obtain ⟨d, hd⟩ := hu
        exact ⟨d, hd, .inr ⟨v, n, e.val, rfl, by simp [Instr.findNow, same d hd], hy⟩⟩
      | false =>
        simp only [Bool.false_eq_true, if_false] at h
        obtain ⟨d, hd, ih⟩ := findK_sound hk hi (w := w) ms (n + 1) h (by rw [hz, hm])
        refine ⟨d, hd, ?_⟩
        rcases ih with ⟨rfl, ih⟩ | ⟨v', j, x', rfl, ih, hc⟩
        · exact .inl ⟨rfl, by simp [Instr.findNow, same d hd, ih]⟩
        · exact .inr ⟨v', j, x', rfl, by simp [Instr.findNow, same d hd, ih], hc⟩
theorem checkKey_plain {b : Bool} {kt : TypeId} {k : CT} (hk : ctOf P kt = some k) (v : Value) (w : World) : (Instr.checkKey b 10000 kt v).run P w = .ok () w := by
  have : ∀ n, (Instr.checkKey b (n + 1) kt v).run P w = .ok () w := by
    intro n
    unfold ctOf at hk
    cases hu : P.underlying kt with
    | none => simp [hu] at hk
    | some d =>
      rw [hu] at hk
      cases d <;> simp at hk <;> (unfold Instr.checkKey; simp [run_underlying hu])
  exact this 9999
theorem bytesOf_sound {E : Env} : ∀ {l : List AVal} {r : List UInt8} {vs : List Value}, bytesOf l = some r → cvs E l = some vs → ∃ ns : List Int, vs = ns.map (.int .u8) ∧ r = ns.map fun n => UInt8.ofNat n.toNat
  | [], r, vs, h, k => by
    simp only [bytesOf, Option.some.injEq] at h; subst h
    simp only [cvs, Option.some.injEq] at k; subst k
    exact ⟨[], rfl, rfl⟩
  | a :: l, r, vs, h, k => by
    simp only [bytesOf, Option.bind_eq_some_iff, Option.map_eq_some_iff] at h
    obtain ⟨c, hc, q, hq, rfl⟩ := h
    simp only [cvs, Option.bind_eq_some_iff, Option.map_eq_some_iff] at k
    obtain ⟨x, hx, y, hy, rfl⟩ := k
    obtain ⟨ns, rfl, rfl⟩ := bytesOf_sound hq hy
    unfold isByte at hc
    split at hc
    · rename_i n
      simp only [Option.some.injEq] at hc; subst hc
      simp only [cv, Option.some.injEq] at hx; subst hx
      exact ⟨n :: ns, rfl, rfl⟩
    · simp at hc
theorem run_pushBytes (w : World) (f : Value → ByteArray → Sem (ForInStep ByteArray)) (hf : ∀ n r, f (.int .u8 n) r = pure (.yield (r.push (UInt8.ofNat n.toNat)))) : ∀ (ns : List Int) (s : ByteArray),
    (forIn (ns.map (Value.int .u8)) s f).run P w = .ok ⟨s.data ++ (ns.map fun n => UInt8.ofNat n.toNat).toArray⟩ w
  | [], s => by simp
  | n :: ns, s => by
    simp only [List.map_cons, List.forIn_cons, Sem.run_bind, hf, Sem.run_pure, Result.andThen_ok]
    rw [run_pushBytes w f hf ns]
    simp [ByteArray.push]
end Go.Eng

/- The engine, twelfth part: operations that write are sound. -/
import Derived.Test.YtgmaknppneonfaaEngK
set_option linter.unusedSimpArgs false
set_option linter.unusedVariables false
namespace Go.Eng
variable {P : Program}

/-- What an operation that writes comes to. -/
def Writes (P : Program) (a : Act) (o : Oper) (E : Env) (H : AHeap) (w : World) (v : AVal) (H' : AHeap) : Prop :=
  ∃ n x w' E', (execOp a.eval o).run P w = .ok n w' ∧ (n = .value x ∨ (n = .skip ∧ x = undef)) ∧ Ext E H w E' H' w' ∧ Rel E' H' w' ∧ cv E' v = some x

theorem same_cell {E : Env} {k : CT} {kt : TypeId} (hk : ctOf P kt = some k) {d : TypeDesc} (hd : P.underlying kt = some d) {i a : AVal} {iv av : Value} (hi : cv E i = some iv) (ha : cv E a = some av) {q : Bool} (hq : cellEq k i a = some q) :
    Instr.sameNow d iv av = some q ∧ (q = true → iv = av ∧ Instr.sameBits 10000 av iv = true) := by
  unfold ctOf at hk
  rw [hd] at hk
  cases k with
  | bool =>
    cases i <;> cases a <;> simp only [cellEq, Option.some.injEq, reduceCtorEq] at hq
    simp only [cv, Option.some.injEq] at hi ha
    cases d <;> simp at hk
    subst hi; subst ha; subst hq
    exact ⟨rfl, fun h => by have := beq_iff_eq.1 h; subst this; exact ⟨rfl, by simp [Instr.sameBits]⟩⟩
  | int k =>
    cases i <;> cases a <;> simp only [cellEq, Option.some.injEq, reduceCtorEq] at hq
    simp only [cv, Option.some.injEq] at hi ha
    split at hq
    · split at hq
      · rename_i h1 h2
        subst h1; subst h2
        simp only [Option.some.injEq] at hq
        cases d <;> simp at hk
        subst hi; subst ha; subst hq
        exact ⟨by simp [Instr.sameNow], fun h => by have := beq_iff_eq.1 h; subst this; exact ⟨rfl, by simp [Instr.sameBits]⟩⟩
      · simp at hq
    · simp at hq
  | str =>
    cases i <;> cases a <;> simp only [cellEq, Option.some.injEq, reduceCtorEq] at hq
    simp only [cv, Option.some.injEq] at hi ha
    cases d <;> simp at hk
    subst hi; subst ha; subst hq
    refine ⟨?_, fun h => ?_⟩
    · simp only [Instr.sameNow, Option.some.injEq]
      rw [beq_toListBytes, ByteArray.toList_eq, ByteArray.toList_eq]
    · have := beq_iff_eq.1 h; subst this; exact ⟨rfl, by simp only [Instr.sameBits]; rw [beq_toListBytes]; simp⟩

def kv (e : MapEntry) : Value × Value := (e.key, e.val)
theorem cvm_snoc {E : Env} {i v : AVal} {iv vv : Value} (hi : cv E i = some iv) (hv : cv E v = some vv) : cvm E [(i, v)] = some [(iv, vv)] := by simp [cvm, hi, hv]
theorem setK_sound {E : Env} {k : CT} {kt : TypeId} (hk : ctOf P kt = some k) {d : TypeDesc} (hd : P.underlying kt = some d) {i v : AVal} {iv vv : Value} (hi : cv E i = some iv) (hv : cv E v = some vv) :
    ∀ (es es' : List (AVal × AVal)) (ms : List MapEntry) (n : Nat), setK k i v es = some es' → cvm E es = some (ms.map kv) →
      (Instr.findNow d iv ms n = some none ∧ cvm E es' = some (ms.map kv ++ [(iv, vv)])) ∨
      ∃ j e x, Instr.findNow d iv ms n = some (some (n + j, x)) ∧ ms[j]? = some e ∧ e.key = iv ∧ Instr.sameBits 10000 e.key iv = true ∧ cvm E es' = some ((ms.map kv).set j (iv, vv))
  | [], es', ms, n, h, hm => by
    simp only [setK, Option.some.injEq] at h; subst h
    simp only [cvm, Option.some.injEq] at hm
    have : ms = [] := by cases ms with | nil => rfl | cons a l => simp at hm
    subst this
    exact .inl ⟨rfl, by simpa using cvm_snoc hi hv⟩
  | (a, u) :: es, es', ms, n, h, hm => by
    simp only [setK, Option.bind_eq_some_iff] at h
    obtain ⟨q, hq, h⟩ := h
    simp only [cvm, Option.bind_eq_some_iff, Option.map_eq_some_iff] at hm
    obtain ⟨x, hx, y, hy, z, hz, hm⟩ := hm
    cases ms with
    | nil => simp at hm
    | cons e ms =>
      simp only [List.map_cons, List.cons.injEq, kv, Prod.mk.injEq] at hm
      obtain ⟨⟨rfl, rfl⟩, hm⟩ := hm
      obtain ⟨hs, hse⟩ := same_cell hk hd hi hx hq
      cases q with
      | true =>
        simp only [if_true, Option.some.injEq] at h; subst h
        obtain ⟨he, hb⟩ := hse rfl
        refine .inr ⟨0, e, e.val, by simp [Instr.findNow, hs], by simp, he.symm, by rw [← he] at hb ⊢; exact hb, ?_⟩
        simp only [cvm, hi, hv, Option.bind_some, hz, hm, Option.map_some, List.map_cons, List.set_cons_zero]
        (try rfl)
      | false =>
        simp only [Bool.false_eq_true, if_false, Option.map_eq_some_iff] at h
        obtain ⟨r, hr, rfl⟩ := h
        rcases setK_sound hk hd hi hv es r ms (n + 1) hr (by rw [hz, hm]; try rfl) with ⟨h1, h2⟩ | ⟨j, e', x, h1, h2, h3, h4, h5⟩
        · refine .inl ⟨by simp [Instr.findNow, hs, h1], ?_⟩
          simp only [cvm, hx, hy, Option.bind_some, h2, Option.map_some, List.map_cons, List.cons_append]
          (try rfl)
        · refine .inr ⟨j + 1, e', x, by simp only [Instr.findNow, hs, h1]; congr 3; omega, by simpa using h2, h3, h4, ?_⟩
          simp only [cvm, hx, hy, Option.bind_some, h5, Option.map_some, List.map_cons, List.set_cons_succ]
          (try rfl)
theorem delK_sound {E : Env} {k : CT} {kt : TypeId} (hk : ctOf P kt = some k) {d : TypeDesc} (hd : P.underlying kt = some d) {i : AVal} {iv : Value} (hi : cv E i = some iv) :
    ∀ (es es' : List (AVal × AVal)) (ms : List MapEntry) (n : Nat), delK k i es = some es' → cvm E es = some (ms.map kv) →
      (Instr.findNow d iv ms n = some none ∧ cvm E es' = some (ms.map kv)) ∨
      ∃ j x, Instr.findNow d iv ms n = some (some (n + j, x)) ∧ j < ms.length ∧ cvm E es' = some ((ms.map kv).eraseIdx j)
  | [], es', ms, n, h, hm => by
    simp only [delK, Option.some.injEq] at h; subst h
    simp only [cvm, Option.some.injEq] at hm
    have : ms = [] := by cases ms with | nil => rfl | cons a l => simp at hm
    subst this
    exact .inl ⟨rfl, rfl⟩
  | (a, u) :: es, es', ms, n, h, hm => by
    simp only [delK, Option.bind_eq_some_iff] at h
    obtain ⟨q, hq, h⟩ := h
    simp only [cvm, Option.bind_eq_some_iff, Option.map_eq_some_iff] at hm
    obtain ⟨x, hx, y, hy, z, hz, hm⟩ := hm
    cases ms with
    | nil => simp at hm
    | cons e ms =>
      simp only [List.map_cons, List.cons.injEq, kv, Prod.mk.injEq] at hm
      obtain ⟨⟨rfl, rfl⟩, hm⟩ := hm
      obtain ⟨hs, hse⟩ := same_cell hk hd hi hx hq
      cases q with
      | true =>
        simp only [if_true, Option.some.injEq] at h; subst h
        exact .inr ⟨0, e.val, by simp [Instr.findNow, hs], by simp, by simp only [List.map_cons, List.eraseIdx_cons_zero]; rw [hz, hm]; try rfl⟩
      | false =>
        simp only [Bool.false_eq_true, if_false, Option.map_eq_some_iff] at h
        obtain ⟨r, hr, rfl⟩ := h
        rcases delK_sound hk hd hi es r ms (n + 1) hr (by rw [hz, hm]; try rfl) with ⟨h1, h2⟩ | ⟨j, x, h1, h2, h3⟩
        · refine .inl ⟨by simp [Instr.findNow, hs, h1], ?_⟩
          simp only [cvm, hx, hy, Option.bind_some, h2, Option.map_some, List.map_cons]
          (try rfl)
        · refine .inr ⟨j + 1, x, by simp only [Instr.findNow, hs, h1]; congr 3; omega, by simp; omega, ?_⟩
          simp only [cvm, hx, hy, Option.bind_some, h3, Option.map_some, List.map_cons, List.eraseIdx_cons_succ]
          (try rfl)

theorem setObj_run {w : World} {c : Nat} {arr : Array MapEntry} {k : Nat} (h : w.heap[c]? = some (.map arr k)) (brr : Array MapEntry) (k' : Nat) :
    ∃ w', (setObj c (.map brr k')).run P w = .ok () w' ∧ WSet w w' c (.map brr k') := by
  have hlt : c < w.heap.size := by
    rcases Nat.lt_or_ge c w.heap.size with hh | hh
    · exact hh
    · rw [Array.getElem?_eq_none hh] at h; simp at h
  refine ⟨{ w with heap := w.heap.setIfInBounds c (.map brr k') }, by simp [setObj, Sem.run, h], by simp, by simp [hlt], fun d hd => by simp [Array.getElem?_setIfInBounds_ne (Ne.symm hd)], rfl, rfl, rfl⟩
theorem mapSet_sound {E : Env} {H : AHeap} {w : World} (R : Rel E H w) {b : Nat} {l : Loc} (hl : E b = some l) {es es' : List (AVal × AVal)} (hb : H.get b = .map es) {t kt et : TypeId} (ht : P.underlying t = some (.map kt et)) {k : CT} (hk : ctOf P kt = some k) {i v : AVal} {iv vv : Value} (hi : cv E i = some iv) (hv : cv E v = some vv) (h : setK k i v es = some es') :
    ∃ w', (Instr.mapUpdate t (.map (some l.blk)) iv vv).run P w = .ok () w' ∧ Rel E (H.set b (.map es')) w' ∧ Ext E H w E (H.set b (.map es')) w' := by
  have hbr := R.blk b l hl
  rw [hb] at hbr
  obtain ⟨arr, clock, hw, hm⟩ := hbr
  have hget : (getObj l.blk).run P w = .ok (.map arr clock) w := by simp [getObj, Sem.run, hw]
  have hr : (H.get b).rw = true := by rw [hb]; rfl
  have hd : ∃ d, P.underlying kt = some d := by
    unfold ctOf at hk
    cases hu : P.underlying kt with
    | none => simp [hu] at hk
    | some d => exact ⟨d, rfl⟩
  obtain ⟨d, hd⟩ := hd
  rcases setK_sound hk hd hi hv es es' arr.toList 0 h hm with ⟨h1, h2⟩ | ⟨j, e, x, h1, h2, h3, h4, h5⟩
  · obtain ⟨w', hs, hW⟩ := setObj_run (P := P) hw (arr.push { key := iv, val := vv, born := clock }) (clock + 1)
    refine ⟨w', ?_, R.set hl hr hW ⟨_, _, rfl, by rw [h2]; simp [kv, Function.comp_def] <;> rfl⟩, Ext.set hl hr hW⟩
    simp only [Instr.mapUpdate, Sem.run_bind, run_underlying ht, Result.andThen_ok, hget, checkKey_plain hk, Instr.findKey, run_underlying hd, h1, Sem.run_pure, hs]
  · obtain ⟨w', hs, hW⟩ := setObj_run (P := P) hw (arr.modify (0 + j) fun e => { e with key := iv, val := vv }) clock
    have hja : arr[0 + j]? = some e := by rw [Nat.zero_add, ← Array.getElem?_toList]; exact h2
    refine ⟨w', ?_, R.set hl hr hW ⟨_, _, rfl, ?_⟩, Ext.set hl hr hW⟩
    · simp only [Instr.mapUpdate, Sem.run_bind, run_underlying ht, Result.andThen_ok, hget, checkKey_plain hk, Instr.findKey, run_underlying hd, h1, Sem.run_pure, hja, Option.map_some, Option.getD_some, Instr.keyThatStays, h4, if_true, hs]
    · rw [h5]
      congr 1
      apply List.ext_getElem?
      intro n
      simp only [List.getElem?_set, List.getElem?_map, Array.getElem?_toList, Array.getElem?_modify, Nat.zero_add]
      have hlt : j < arr.size := by
        rcases Nat.lt_or_ge j arr.size with hh | hh
        · exact hh
        · rw [Nat.zero_add, Array.getElem?_eq_none hh] at hja; simp at hja
      by_cases hn : j = n
      · subst hn
        simp only [if_true, List.length_map, Array.length_toList, hlt]
        simp [hlt, kv]
      · simp only [hn, if_false]; rfl
theorem mapDel_sound {E : Env} {H : AHeap} {w : World} (R : Rel E H w) {b : Nat} {l : Loc} (hl : E b = some l) {es es' : List (AVal × AVal)} (hb : H.get b = .map es) {t kt et : TypeId} (ht : P.underlying t = some (.map kt et)) {k : CT} (hk : ctOf P kt = some k) {i : AVal} {iv : Value} (hi : cv E i = some iv) (h : delK k i es = some es') (ts : Array TypeId) (ht0 : ts[0]? = some t) (ty : TypeId) :
    ∃ w', (Builtin.delete_ ts ty #[.map (some l.blk), iv]).run P w = .ok (.tuple #[]) w' ∧ Rel E (H.set b (.map es')) w' ∧ Ext E H w E (H.set b (.map es')) w' := by
  have hbr := R.blk b l hl
  rw [hb] at hbr
  obtain ⟨arr, clock, hw, hm⟩ := hbr
  have hget : (getObj l.blk).run P w = .ok (.map arr clock) w := by simp [getObj, Sem.run, hw]
  have hr : (H.get b).rw = true := by rw [hb]; rfl
  have hd : ∃ d, P.underlying kt = some d := by
    unfold ctOf at hk
    cases hu : P.underlying kt with
    | none => simp [hu] at hk
    | some d => exact ⟨d, rfl⟩
  obtain ⟨d, hd⟩ := hd
  rcases delK_sound hk hd hi es es' arr.toList 0 h hm with ⟨h1, h2⟩ | ⟨j, x, h1, h2, h3⟩
  · obtain ⟨w', hs, hW⟩ := setObj_run (P := P) hw arr clock
    refine ⟨w', ?_, R.set hl hr hW ⟨_, _, rfl, by rw [h2]; simp [kv, Function.comp_def] <;> rfl⟩, Ext.set hl hr hW⟩
    simp [Builtin.delete_, ht0, run_underlying ht, hget, checkKey_plain hk, Instr.findKey, run_underlying hd, h1, hs]
  · obtain ⟨w', hs, hW⟩ := setObj_run (P := P) hw (arr.eraseIdxIfInBounds j) clock
    refine ⟨w', ?_, R.set hl hr hW ⟨_, _, rfl, ?_⟩, Ext.set hl hr hW⟩
    · rw [Nat.zero_add] at h1
      simp [Builtin.delete_, ht0, run_underlying ht, hget, checkKey_plain hk, Instr.findKey, run_underlying hd, h1, hs]
    · rw [h3]
      congr 1
      simp only [Array.length_toList] at h2
      simp only [Array.eraseIdxIfInBounds, h2, dif_pos, Array.toList_eraseIdx]
      apply List.ext_getElem?
      intro n
      simp only [List.getElem?_eraseIdx, List.getElem?_map]
      split <;> rfl
end Go.Eng

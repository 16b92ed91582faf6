/- The engine, tenth part: what is made, and what is written. -/
import Derived.Test.YtgmaknppneonfaaEngI
set_option linter.unusedSimpArgs false
set_option linter.unusedVariables false
namespace Go.Eng
variable {P : Program}

def Env.upd (E : Env) (id : Nat) (l : Loc) : Env := fun b => if b = id then some l else E b
theorem Env.upd_at (E : Env) (id : Nat) (l : Loc) : E.upd id l id = some l := by simp [Env.upd]
theorem Env.upd_ne (E : Env) {id b : Nat} (l : Loc) (h : b ≠ id) : E.upd id l b = E b := by simp [Env.upd, h]
theorem Env.le_upd {E : Env} {id : Nat} {l : Loc} (h : E id = none) : E.le (E.upd id l) := by
  intro b k hb
  by_cases e : b = id
  · subst e; simp [h] at hb
  · rw [Env.upd_ne E l e]; exact hb

/-- A new block in the world. -/
structure WNew (w w' : World) (o : Obj) : Prop where
  size : w'.heap.size = w.heap.size + 1
  at_ : w'.heap[w.heap.size]? = some o
  old : ∀ c, c < w.heap.size → w'.heap[c]? = w.heap[c]?
  os : w'.os = w.os
  tape : w'.tape = w.tape
  output : w'.output = w.output
theorem WNew.push (w : World) (o : Obj) (n : Nat) : WNew w { w with heap := w.heap.push o, drawn := n } o :=
  ⟨by simp, by simp, fun c hc => by simp [Array.getElem?_push]; omega, rfl, rfl, rfl⟩
theorem Rel.made {E : Env} {H H' : AHeap} {w w' : World} (R : Rel E H w) {id : Nat} (hid : E id = none) {blk : ABlk} {o : Obj} {l : Loc} (hl : l.blk = w.heap.size) (W : WNew w w' o) (hB : ∀ E', E.le E' → E' id = some l → BRel E' l (some o) blk)
    (h1 : H'.get id = blk) (h2 : ∀ b, b ≠ id → E b ≠ none → H'.get b = H.get b) : Rel (E.upd id l) H' w' where
  blk b k hb := by
    by_cases e : b = id
    · subst e
      rw [Env.upd_at] at hb; simp only [Option.some.injEq] at hb; subst hb
      rw [h1, hl, W.at_]
      exact hB _ (Env.le_upd hid) (Env.upd_at _ _ _)
    · rw [Env.upd_ne E l e] at hb
      rw [h2 b e (by simp [hb]), W.old _ (R.lt b k hb)]
      exact (R.blk b k hb).mono (Env.le_upd hid)
  inj b c k m hb hc he hr ha := by
    by_cases eb : b = id
    · by_cases ec : c = id
      · rw [eb, ec]
      · subst eb
        rw [Env.upd_at] at hb; simp only [Option.some.injEq] at hb; subst hb
        rw [Env.upd_ne E l ec] at hc
        have := R.lt c m hc
        omega
    · rw [Env.upd_ne E l eb] at hb
      by_cases ec : c = id
      · subst ec
        rw [Env.upd_at] at hc; simp only [Option.some.injEq] at hc; subst hc
        have := R.lt b k hb
        omega
      · rw [Env.upd_ne E l ec] at hc
        rw [h2 b eb (by simp [hb])] at hr
        rw [h2 c ec (by simp [hc])] at ha
        exact R.inj b c k m hb hc he hr ha
  lt b k hb := by
    by_cases e : b = id
    · subst e
      rw [Env.upd_at] at hb; simp only [Option.some.injEq] at hb; subst hb
      rw [hl, W.size]; omega
    · rw [Env.upd_ne E l e] at hb
      have := R.lt b k hb
      rw [W.size]; omega
theorem Ext.made {E : Env} {H : AHeap} {w w' : World} {blk : ABlk} {o : Obj} {l : Loc} (hid : E H.n = none) (hl : l.blk = w.heap.size) (W : WNew w w' o) : Ext E H w (E.upd H.n l) (H.push blk) w' where
  le := Env.le_upd hid
  new b k hb he := by
    by_cases e : b = H.n
    · simp [e]
    · rw [Env.upd_ne E l e] at hb; simp [hb] at he
  all b h1 h2 := by
    simp at h2
    have : b = H.n := by omega
    subst this; rw [Env.upd_at]; simp
  n := by simp
  size := by rw [W.size]; omega
  os := W.os
  tape := W.tape
  output := W.output
  frame c hc _ := W.old c hc
  loc b k hb he := by
    by_cases e : b = H.n
    · subst e; rw [Env.upd_at] at hb; simp only [Option.some.injEq] at hb; subst hb; left; omega
    · rw [Env.upd_ne E l e] at hb; simp [hb] at he
  mono b hb hr := by
    have : b ≠ H.n := by intro e; subst e; exact hb hid
    rw [AHeap.get_push, if_neg this]; exact hr
  dead b hb hr := by
    have : b ≠ H.n := by intro e; subst e; exact hb hid
    rw [AHeap.get_push, if_neg this]; exact hr

/-- A block of the world is written. -/
structure WSet (w w' : World) (c : Nat) (o : Obj) : Prop where
  size : w'.heap.size = w.heap.size
  at_ : w'.heap[c]? = some o
  other : ∀ d, d ≠ c → w'.heap[d]? = w.heap[d]?
  os : w'.os = w.os
  tape : w'.tape = w.tape
  output : w'.output = w.output
theorem rw_alive {b : ABlk} (h : b.rw = true) : b.alive = true := by
  cases b with
  | dead => simp [ABlk.rw] at h
  | _ => rfl
theorem Rel.set {E : Env} {H : AHeap} {w w' : World} (R : Rel E H w) {b : Nat} {l : Loc} (hb : E b = some l) (hr : (H.get b).rw = true) {o : Obj} (W : WSet w w' l.blk o) {blk : ABlk} (hB : BRel E l (some o) blk) : Rel E (H.set b blk) w' where
  blk c k hc := by
    rw [AHeap.get_set]
    by_cases e : c = b
    · subst e
      rw [hb] at hc; simp only [Option.some.injEq] at hc; subst hc
      rw [if_pos rfl, W.at_]; exact hB
    · rw [if_neg e]
      by_cases hk : k.blk = l.blk
      · cases ha : (H.get c).alive with
        | true => exact absurd (R.inj b c l k hb hc hk.symm hr ha).symm e
        | false => cases hg : H.get c with
          | dead => trivial
          | cells _ _ _ _ => rw [hg] at ha; simp [ABlk.alive] at ha
          | map _ => rw [hg] at ha; simp [ABlk.alive] at ha
      · rw [W.other _ hk]; exact R.blk c k hc
  inj c d k m hc hd he h1 h2 := by
    rw [AHeap.get_set] at h1 h2
    have h1' : (H.get c).rw = true := by
      by_cases e : c = b
      · rw [e]; exact hr
      · rw [if_neg e] at h1; exact h1
    have h2' : (H.get d).alive = true := by
      by_cases e : d = b
      · rw [e]; exact rw_alive hr
      · rw [if_neg e] at h2; exact h2
    exact R.inj c d k m hc hd he h1' h2'
  lt c k hc := by rw [W.size]; exact R.lt c k hc
theorem Ext.set {E : Env} {H : AHeap} {w w' : World} {b : Nat} {l : Loc} (hb : E b = some l) (hr : (H.get b).rw = true) {o : Obj} (W : WSet w w' l.blk o) {blk : ABlk} : Ext E H w E (H.set b blk) w' where
  le := Env.le_refl E
  new c k hc he := by simp [hc] at he
  all c h1 h2 := by simp at h2; omega
  n := by simp
  size := by rw [W.size]; omega
  os := W.os
  tape := W.tape
  output := W.output
  frame c hc hE := W.other c fun e => by have := hE b l hb e.symm; simp [this] at hr
  loc c k hc he := by simp [hc] at he
  mono c hc h := by
    rw [AHeap.get_set]
    by_cases e : c = b
    · subst e; simp [h] at hr
    · rw [if_neg e]; exact h
  dead c hc h := by
    rw [AHeap.get_set]
    by_cases e : c = b
    · subst e; rw [rw_alive hr] at h; simp at h
    · rw [if_neg e]; exact h

theorem run_storeCells {c o : Nat} {e : TypeId} {fz : Nat × Nat} : ∀ (vs : List Value) (i : Nat) (w : World) (arr : Array Value), w.heap[c]? = some (.cells arr e fz) → (fz.1 = fz.2 ∨ arr.size ≤ fz.1) → o + i + vs.length ≤ arr.size → (∀ v ∈ vs, v.oneCell' = true) →
    ∃ w' brr, (storeCells ⟨c, o, none⟩ vs i).run P w = .ok () w' ∧ WSet w w' c (.cells brr e fz) ∧ brr.size = arr.size ∧ brr.toList = arr.toList.take (o + i) ++ vs ++ arr.toList.drop (o + i + vs.length)
  | [], i, w, arr, hw, hf, hl, hv => ⟨w, arr, rfl, ⟨rfl, hw, fun _ _ => rfl, rfl, rfl, rfl⟩, rfl, by simp⟩
  | v :: vs, i, w, arr, hw, hf, hl, hv => by
    simp only [List.length_cons] at hl
    have hlt : o + i < arr.size := by omega
    have hcell : w.cell? ⟨c, o + i, none⟩ = some arr[o + i] := by rw [cell_of hw]; simp [hlt]
    have hfr : w.frozen? ⟨c, o + i, none⟩ = false := by
      simp only [World.frozen?, hw]
      rcases hf with hf | hf
      · simp; omega
      · simp; omega
    have hw1 : (w.setCell ⟨c, o + i, none⟩ v).heap[c]? = some (.cells (arr.setIfInBounds (o + i) v) e fz) := by
      simp [World.setCell, Array.getElem?_modify, hw]
    obtain ⟨w', brr, h1, h2, h3, h4⟩ := run_storeCells (o := o) vs (i + 1) (w.setCell ⟨c, o + i, none⟩ v) _ hw1 (by simpa using hf) (by simp; omega) (fun x hx => hv x (by simp [hx]))
    refine ⟨w', brr, ?_, ?_, by simpa using h3, ?_⟩
    · simp only [storeCells, Sem.run_bind, add_plain]
      rw [run_store P w _ v .plain (hv v (by simp)), hcell]
      simp only [hfr, Bool.false_eq_true, if_false, Result.andThen_ok]
      exact h1
    · refine ⟨?_, h2.at_, fun d hd => ?_, h2.os, h2.tape, h2.output⟩
      · rw [h2.size]; simp
      · rw [h2.other d hd]
        simp only [World.setCell, Array.getElem?_modify]
        rw [if_neg (Ne.symm hd)]
    · rw [h4]
      simp only [Array.toList_setIfInBounds, List.length_cons]
      have hk : o + i < arr.toList.length := by simpa using hlt
      have e1 : (arr.toList.set (o + i) v).take (o + (i + 1)) = arr.toList.take (o + i) ++ [v] := by
        rw [show o + (i + 1) = o + i + 1 by omega, List.take_succ_eq_append_getElem (by simpa using hk), List.take_set_of_le (by omega), List.getElem_set_self]
      have e2 : (arr.toList.set (o + i) v).drop (o + (i + 1) + vs.length) = arr.toList.drop (o + i + (vs.length + 1)) := by
        rw [List.drop_set_of_lt (by omega)]; congr 1; omega
      rw [e1, e2]
      simp

/-- The engine's store, in the world. -/
theorem store_sound {E : Env} {H H' : AHeap} {w : World} (R : Rel E H w) {b o : Nat} {l : Loc} (hl : E b = some l) {cs : List AVal} {vs : List Value} (hcv : cvs E cs = some vs) (h : H.store b o cs = some H') :
    ∃ w', (storeCells ⟨l.blk, o, none⟩ vs).run P w = .ok () w' ∧ Rel E H' w' ∧ Ext E H w E H' w' := by
  unfold AHeap.store at h
  split at h
  · rename_i bl e s m hb
    by_cases hc : m ≠ .ro ∧ o + cs.length ≤ bl.length ∧ cs.all AVal.isCell = true
    · rw [if_pos hc] at h
      simp only [Option.some.injEq] at h; subst h
      obtain ⟨arr, fz, us, hw, hcs, htot, hes, ⟨rest, harr, hrest⟩, hfz, hpos⟩ := R.cells hl hb
      have hlen := cvs_length hcs
      have hlen2 := cvs_length hcv
      have hlen3 : arr.size = us.length + rest.length := by rw [← Array.length_toList, harr]; simp
      obtain ⟨w', brr, h1, h2, h3, h4⟩ := run_storeCells (P := P) (o := o) vs 0 w arr hw (hfz hc.1) (by omega) (cvs_cellsAll hcv hc.2.2)
      have hr : (H.get b).rw = true := by rw [hb]; cases m <;> first | rfl | exact absurd rfl hc.1
      refine ⟨w', h1, R.set hl hr h2 ?_, Ext.set hl hr h2⟩
      refine ⟨brr, fz, us.take o ++ vs ++ us.drop (o + cs.length), rfl, ?_, by rw [htot, h3], hes, ⟨rest, ?_, hrest⟩, fun k => by rw [h3]; exact hfz k, hpos⟩
      · exact cvs_append (cvs_append (cvs_take o hcs) hcv) (cvs_drop _ hcs)
      · rw [h4, harr]
        simp only [Nat.add_zero, hlen2]
        rw [List.take_append_of_le_length (by omega), List.drop_append_of_le_length (by omega)]
        simp
    · rw [if_neg hc] at h; simp at h
  · simp at h
end Go.Eng

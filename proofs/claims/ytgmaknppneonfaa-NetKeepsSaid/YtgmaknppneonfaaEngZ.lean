/- The engine, twenty-sixth part: regions that draw their order, worked out by rewriting. -/
import Derived.Test.YtgmaknppneonfaaEngY
set_option linter.unusedSimpArgs false
set_option linter.unusedVariables false
namespace Go.Eng
variable {Φ Ψ : Phi} {τ : Tm} {H : AHeap} {ds : Dfs}
def atr (Φ : Phi) (l : List (COper × List Nat)) (s : ASt) (acc : List Ev) : Option (ASt × List Ev) := (atrace Φ l s).map fun x => (x.1, acc ++ x.2)
def thenT (r : AR) (Φ : Phi) (d : Option Nat) (l : List (COper × List Nat)) (τ : Tm) (acc : List Ev) : Option (ASt × List Ev) := r.bind fun x => atr Φ l ⟨put d x.1 τ, x.2.1, x.2.2.1⟩ (acc ++ [x.2.2.2])
def guardT (x : Option AVal) (b : Bool) (Φ : Phi) (d : Option Nat) (op : COp) (us : List Nat) (l : List (COper × List Nat)) (τ : Tm) (H : AHeap) (ds : Dfs) (acc : List Ev) : Option (ASt × List Ev) := match x with
  | some (.bool c) => if c = b then thenT (aop Φ op ⟨restrict us τ, H, ds⟩) Φ d l τ acc else atr Φ l ⟨put d undefA τ, H, ds⟩ (acc ++ [.p])
  | some (.tup []) => atr Φ l ⟨put d undefA τ, H, ds⟩ (acc ++ [.p])
  | _ => none
theorem atr_nil (s : ASt) (acc : List Ev) : atr Φ [] s acc = some (s, acc) := by simp [atr, atrace]
theorem atr_n (d : Option Nat) (op : COp) (us : List Nat) (l : List (COper × List Nat)) (acc : List Ev) : atr Φ ((⟨d, op, none⟩, us) :: l) ⟨τ, H, ds⟩ acc = thenT (aop Φ op ⟨restrict us τ, H, ds⟩) Φ d l τ acc := by
  simp only [atr, atrace, astepD, wantedA, thenT]
  cases aop Φ op ⟨restrict us τ, H, ds⟩ with
  | none => rfl
  | some x =>
    obtain ⟨v, H', ds', e⟩ := x
    simp only [Option.map_some, Option.bind_some]
    cases atrace Φ l ⟨put d v τ, H', ds'⟩ <;> simp
theorem atr_g (d : Option Nat) (op : COp) (s : Nat) (b : Bool) (us : List Nat) (l : List (COper × List Nat)) (acc : List Ev) : atr Φ ((⟨d, op, some (s, b)⟩, us) :: l) ⟨τ, H, ds⟩ acc = guardT (lk (restrict us τ) s) b Φ d op us l τ H ds acc := by
  cases h : lk (restrict us τ) s with
  | none => simp [atr, atrace, astepD, wantedA, h, guardT]
  | some v =>
    cases v with
    | bool c =>
      simp only [atr, atrace, astepD, wantedA, h, guardT]
      by_cases e : c = b
      · simp only [e, beq_self_eq_true, if_true, thenT]
        cases aop Φ op ⟨restrict us τ, H, ds⟩ with
        | none => rfl
        | some x =>
          obtain ⟨v, H', ds', e'⟩ := x
          simp only [Option.map_some, Option.bind_some, atr]
          cases atrace Φ l ⟨put d v τ, H', ds'⟩ <;> simp
      · have : (c == b) = false := by simp [e]
        simp only [this, e, if_false, Option.bind_some, atr]
        cases atrace Φ l ⟨put d undefA τ, H, ds⟩ <;> simp
    | tup l' =>
      cases l' with
      | nil =>
        simp only [atr, atrace, astepD, wantedA, h, guardT, Option.bind_some]
        cases atrace Φ l ⟨put d undefA τ, H, ds⟩ <;> simp
      | cons a l' => simp [atr, atrace, astepD, wantedA, h, guardT]
    | _ => simp [atr, atrace, astepD, wantedA, h, guardT]
theorem thenT_some (v : AVal) (H' : AHeap) (ds' : Dfs) (e : Ev) (d : Option Nat) (l : List (COper × List Nat)) (acc : List Ev) : thenT (some (v, H', ds', e)) Φ d l τ acc = atr Φ l ⟨put d v τ, H', ds'⟩ (acc ++ [e]) := (rfl)
theorem thenT_ite (c : Prop) [Decidable c] (x y : AR) (d : Option Nat) (l : List (COper × List Nat)) (acc : List Ev) : thenT (if c then x else y) Φ d l τ acc = if c then thenT x Φ d l τ acc else thenT y Φ d l τ acc := by split <;> rfl
theorem guardT_b (c b : Bool) (d : Option Nat) (op : COp) (us : List Nat) (l : List (COper × List Nat)) (acc : List Ev) : guardT (some (.bool c)) b Φ d op us l τ H ds acc = if c = b then thenT (aop Φ op ⟨restrict us τ, H, ds⟩) Φ d l τ acc else atr Φ l ⟨put d undefA τ, H, ds⟩ (acc ++ [.p]) := (rfl)
theorem guardT_u (b : Bool) (d : Option Nat) (op : COp) (us : List Nat) (l : List (COper × List Nat)) (acc : List Ev) : guardT (some (.tup [])) b Φ d op us l τ H ds acc = atr Φ l ⟨put d undefA τ, H, ds⟩ (acc ++ [.p]) := (rfl)
def drK (keep : List Nat) (rx : List (Nat × Nat)) (x : Option (ASt × List Ev)) : Option (AEx × ASt) := match x with
  | some (⟨τ, H, ds⟩, es) => if es.all Ev.inside = true ∧ rx.all (agree es) = true then some (.normal, ⟨restrict keep τ, H, ds⟩) else none
  | none => none
theorem aden_dregion (keep : List Nat) (ops : List (COper × List Nat)) (rx : List (Nat × Nat)) (s : ASt) : aden Φ (.dregion keep ops rx) s = drK keep rx (atr Φ ops s []) := by
  simp only [aden, drK, atr]
  cases atrace Φ ops s with
  | none => rfl
  | some x =>
    obtain ⟨⟨τ, H, ds⟩, es⟩ := x
    simp only [Option.bind_some, Option.map_some, List.nil_append, Bool.and_eq_true]
theorem drK_some (keep : List Nat) (rx : List (Nat × Nat)) (es : List Ev) : drK keep rx (some (⟨τ, H, ds⟩, es)) = if es.all Ev.inside = true ∧ rx.all (agree es) = true then some (.normal, ⟨restrict keep τ, H, ds⟩) else none := (rfl)
theorem drK_ite (keep : List Nat) (rx : List (Nat × Nat)) (c : Prop) [Decidable c] (x y : Option (ASt × List Ev)) : drK keep rx (if c then x else y) = if c then drK keep rx x else drK keep rx y := by split <;> rfl
theorem inside_p : Ev.inside .p = true := (rfl)
theorem inside_a (i : Nat) (x : ABlk) : Ev.inside (.a i x) = true := (rfl)
theorem inside_x (a b : AHeap) : Ev.inside (.x a b) = true := (rfl)
theorem inside_r (b n : Nat) (g : ABlk → Option AVal) (v : AVal) : Ev.inside (.r b n g v) = decide (b < n) := by
  simp only [Ev.inside]; rw [Bool.eq_iff_iff]; simp [Nat.blt_eq]
def agK (x y : Option Ev) (lt : Bool) : Bool := match x, y with
  | some (.r b _ g v), some (.x Hb Ha) => Nat.blt b Hb.n && optBeq (g (Hb.get b)) v && optBeq (g (Ha.get b)) v
  | some (.a id blk), some (.x _ Ha) => if lt = true then ABlk.beq (Ha.get id) blk else true
  | _, _ => true
theorem agree_eq (es : List Ev) (i j : Nat) : agree es (i, j) = agK es[i]? es[j]? (decide (i < j)) := by
  simp only [agree, agK, decide_eq_true_eq]
  generalize es[i]? = x
  generalize es[j]? = y
  cases x with
  | none => rfl
  | some x => cases x <;> (cases y with
    | none => rfl
    | some y => cases y <;> rfl)
theorem agK_rx (b n : Nat) (g : ABlk → Option AVal) (v : AVal) (Hb Ha : AHeap) (lt : Bool) : agK (some (.r b n g v)) (some (.x Hb Ha)) lt = (decide (b < Hb.n) && optBeq (g (Hb.get b)) v && optBeq (g (Ha.get b)) v) := by
  simp only [agK]; congr 2; rw [Bool.eq_iff_iff]; simp [Nat.blt_eq]
theorem agK_ax (id : Nat) (blk : ABlk) (Hb Ha : AHeap) (lt : Bool) : agK (some (.a id blk)) (some (.x Hb Ha)) lt = if lt = true then ABlk.beq (Ha.get id) blk else true := (rfl)
theorem agK_p (y : Option Ev) (lt : Bool) : agK (some .p) y lt = true := (rfl)
theorem agK_x (a b : AHeap) (y : Option Ev) (lt : Bool) : agK (some (.x a b)) y lt = true := (rfl)
theorem agK_rp (b n : Nat) (g : ABlk → Option AVal) (v : AVal) (lt : Bool) : agK (some (.r b n g v)) (some .p) lt = true := (rfl)
theorem agK_rr (b n b' n' : Nat) (g g' : ABlk → Option AVal) (v v' : AVal) (lt : Bool) : agK (some (.r b n g v)) (some (.r b' n' g' v')) lt = true := (rfl)
theorem agK_ra (b n b' : Nat) (g : ABlk → Option AVal) (v : AVal) (x : ABlk) (lt : Bool) : agK (some (.r b n g v)) (some (.a b' x)) lt = true := (rfl)
theorem agK_ap (b : Nat) (x : ABlk) (lt : Bool) : agK (some (.a b x)) (some .p) lt = true := (rfl)
theorem agK_ar (b b' n' : Nat) (x : ABlk) (g' : ABlk → Option AVal) (v' : AVal) (lt : Bool) : agK (some (.a b x)) (some (.r b' n' g' v')) lt = true := (rfl)
theorem agK_aa (b b' : Nat) (x x' : ABlk) (lt : Bool) : agK (some (.a b x)) (some (.a b' x')) lt = true := (rfl)
theorem optBeq_some (a v : AVal) : optBeq (some a) v = AVal.beq a v := (rfl)
theorem beq_int (k j : IntKind) (a b : Int) : AVal.beq (.int k a) (.int j b) = (decide (k = j) && decide (a = b)) := by simp only [AVal.beq]
theorem beq_bool (a b : Bool) : AVal.beq (.bool a) (.bool b) = decide (a = b) := by simp only [AVal.beq, beq_dec]
theorem beq_str (a b : List UInt8) : AVal.beq (.str a) (.str b) = decide (a = b) := by simp only [AVal.beq]
theorem beq_agg (a b : List AVal) : AVal.beq (.agg a) (.agg b) = AVal.beqs a b := by simp only [AVal.beq]
theorem beq_tup (a b : List AVal) : AVal.beq (.tup a) (.tup b) = AVal.beqs a b := by simp only [AVal.beq]
theorem nat_beq (a b : Nat) : Nat.beq a b = decide (a = b) := by rw [Bool.eq_iff_iff]; simp
theorem beq_ptr (a b c d : Nat) : AVal.beq (.ptr a b) (.ptr c d) = (decide (a = c) && decide (b = d)) := by simp only [AVal.beq, nat_beq]
theorem beq_nilp : AVal.beq .nilp .nilp = true := by simp only [AVal.beq]
theorem beq_nils : AVal.beq .nils .nils = true := by simp only [AVal.beq]
theorem beq_nili : AVal.beq .nili .nili = true := by simp only [AVal.beq]
theorem beq_sl (a b c d e f : Nat) (x y : Option Nat) : AVal.beq (.sl a b c x) (.sl d e f y) = (decide (a = d) && decide (b = e) && decide (c = f) && decide (x = y)) := by simp only [AVal.beq, nat_beq]
theorem beqs_nil : AVal.beqs [] [] = true := by simp only [AVal.beqs]
theorem beqs_cons (a b : AVal) (l m : List AVal) : AVal.beqs (a :: l) (b :: m) = (AVal.beq a b && AVal.beqs l m) := by simp only [AVal.beqs]
theorem blkBeq (l l' : List AVal) (e e' : TypeId) (s s' : Nat) (m m' : Mode) : ABlk.beq (.cells l e s m) (.cells l' e' s' m') = (AVal.beqs l l' && decide (e = e') && decide (s = s') && decide (m = m')) := by simp only [ABlk.beq, nat_beq]
attribute [go_sem] atr_nil atr_n atr_g thenT_some thenT_ite guardT_b guardT_u aden_dregion drK_some drK_ite inside_p inside_a inside_x inside_r agree_eq agK_rx agK_ax agK_p agK_x agK_rp agK_rr agK_ra agK_ap agK_ar agK_aa
  optBeq_some beq_int beq_bool beq_str beq_agg beq_tup beq_ptr beq_nilp beq_nils beq_nili beq_sl beqs_nil beqs_cons blkBeq
end Go.Eng

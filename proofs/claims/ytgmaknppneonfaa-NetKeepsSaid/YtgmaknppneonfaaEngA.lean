/- The engine, first part: abstract values, the abstract heap, and what a Go function's code does on them. -/
import Derived.Orders
namespace Go.Eng

/-- An abstract value: as the model's, but blocks are numbered by the engine; 'sl' with no capacity: it reaches to the end of a block that may have grown. -/
inductive AVal where
  | bool (b : Bool)
  | int (k : IntKind) (n : Int)
  | str (s : List UInt8)
  | ptr (b off : Nat)
  | nilp
  | sl (b off len : Nat) (cap : Option Nat)
  | etail (b off l es : Nat)
  | nils
  | mp (b : Nat)
  | nilm
  | fn (f : Fn) (first captured : List AVal)
  | nilfn
  | iface (t : TypeId) (v : AVal)
  | nili
  | agg (l : List AVal)
  | tup (l : List AVal)
  | raw (v : Value)
  deriving Inhabited

abbrev undefA : AVal := .tup []

mutual
def AVal.beq : AVal → AVal → Bool
  | .bool a, .bool b => a == b
  | .int k a, .int j b => decide (k = j) && decide (a = b)
  | .str a, .str b => decide (a = b)
  | .ptr a b, .ptr c d => Nat.beq a c && Nat.beq b d
  | .nilp, .nilp => true
  | .sl a b c x, .sl d e f y => Nat.beq a d && Nat.beq b e && Nat.beq c f && decide (x = y)
  | .etail a b c x, .etail d e f y => Nat.beq a d && Nat.beq b e && Nat.beq c f && Nat.beq x y
  | .nils, .nils => true
  | .mp a, .mp b => Nat.beq a b
  | .nilm, .nilm => true
  | .fn f a b, .fn g c d => decide (f = g) && AVal.beqs a c && AVal.beqs b d
  | .nilfn, .nilfn => true
  | .iface t a, .iface u b => Nat.beq t u && AVal.beq a b
  | .nili, .nili => true
  | .agg a, .agg b => AVal.beqs a b
  | .tup a, .tup b => AVal.beqs a b
  | _, _ => false
def AVal.beqs : List AVal → List AVal → Bool
  | [], [] => true
  | a :: l, b :: m => AVal.beq a b && AVal.beqs l m
  | _, _ => false
end

mutual
theorem AVal.eq_of_beq : ∀ (a b : AVal), AVal.beq a b = true → a = b
  | .bool a, b, h => by cases b <;> simp_all [AVal.beq]
  | .int k a, b, h => by cases b <;> simp_all [AVal.beq]
  | .str a, b, h => by cases b <;> simp_all [AVal.beq]
  | .ptr a c, b, h => by cases b <;> simp_all [AVal.beq]
  | .nilp, b, h => by cases b <;> simp_all [AVal.beq]
  | .sl a c d x, b, h => by cases b <;> simp_all [AVal.beq]
  | .etail a c d x, b, h => by cases b <;> simp_all [AVal.beq]
  | .nils, b, h => by cases b <;> simp_all [AVal.beq]
  | .mp a, b, h => by cases b <;> simp_all [AVal.beq]
  | .nilm, b, h => by cases b <;> simp_all [AVal.beq]
  | .fn f a c, b, h => by
    cases b with
    | fn g d e =>
      simp only [AVal.beq, Bool.and_eq_true, decide_eq_true_eq] at h
      rw [h.1.1, AVal.eq_of_beqs a d h.1.2, AVal.eq_of_beqs c e h.2]
    | _ => simp [AVal.beq] at h
  | .nilfn, b, h => by cases b <;> simp_all [AVal.beq]
  | .iface t a, b, h => by
    cases b with
    | iface u c =>
      simp only [AVal.beq, Bool.and_eq_true, Nat.beq_eq] at h
      rw [h.1, AVal.eq_of_beq a c h.2]
    | _ => simp [AVal.beq] at h
  | .nili, b, h => by cases b <;> simp_all [AVal.beq]
  | .agg a, b, h => by
    cases b with
    | agg c => simp only [AVal.beq] at h; rw [AVal.eq_of_beqs a c h]
    | _ => simp [AVal.beq] at h
  | .tup a, b, h => by
    cases b with
    | tup c => simp only [AVal.beq] at h; rw [AVal.eq_of_beqs a c h]
    | _ => simp [AVal.beq] at h
  | .raw a, b, h => by cases b <;> simp [AVal.beq] at h
theorem AVal.eq_of_beqs : ∀ (a b : List AVal), AVal.beqs a b = true → a = b
  | [], b, h => by cases b <;> simp_all [AVal.beqs]
  | a :: l, b, h => by
    cases b with
    | nil => simp [AVal.beqs] at h
    | cons c m =>
      simp only [AVal.beqs, Bool.and_eq_true] at h
      rw [AVal.eq_of_beq a c h.1, AVal.eq_of_beqs l m h.2]
end
/-- Where a block lies in the world: its number, its cells, the cells of an element. -/
structure Loc where
  blk : Nat
  tot : Nat
  es : Nat
abbrev Env := Nat → Option Loc

mutual
/-- The world's value of an abstract one. -/
def cv (E : Env) : AVal → Option Value
  | .bool b => some (.bool b)
  | .int k n => some (.int k n)
  | .str s => some (.string ⟨s.toArray⟩)
  | .ptr b o => (E b).map fun l => .pointer (some ⟨l.blk, o, none⟩)
  | .nilp => some (.pointer none)
  | .sl b o n (some c) => (E b).map fun l => .slice (some ⟨l.blk, o, none⟩) n c
  | .sl b o n none => (E b).map fun l => .slice (some ⟨l.blk, o, none⟩) n ((l.tot - o) / l.es)
  | .etail b o k s => (E b).map fun l => .slice (some ⟨l.blk, if (l.tot - o) / l.es = k then o else o + k * s, none⟩) 0 ((l.tot - o) / l.es - k)
  | .nils => some (.slice none 0 0)
  | .mp b => (E b).map fun l => .map (some l.blk)
  | .nilm => some (.map none)
  | .fn f a c => (cvs E a).bind fun x => (cvs E c).map fun y => .func f x.toArray y.toArray
  | .nilfn => some .nilFunc
  | .iface t v => (cv E v).map (.iface t)
  | .nili => some .nilIface
  | .agg l => (cvs E l).map fun x => .agg x.toArray
  | .tup l => (cvs E l).map fun x => .tuple x.toArray
  | .raw v => some v
def cvs (E : Env) : List AVal → Option (List Value)
  | [] => some []
  | v :: l => (cv E v).bind fun x => (cvs E l).map fun y => x :: y
end

def Env.le (E E' : Env) : Prop := ∀ b l, E b = some l → E' b = some l
theorem Env.le_refl (E : Env) : E.le E := fun _ _ h => h
theorem Env.le_trans {E F G : Env} (h : E.le F) (k : F.le G) : E.le G := fun b l e => k b l (h b l e)

mutual
theorem cv_mono {E E' : Env} (h : E.le E') : ∀ (a : AVal) (v : Value), cv E a = some v → cv E' a = some v
  | .bool _, v, e => by simpa [cv] using e
  | .int _ _, v, e => by simpa [cv] using e
  | .str _, v, e => by simpa [cv] using e
  | .ptr b o, v, e => by
    simp only [cv, Option.map_eq_some_iff] at e ⊢
    obtain ⟨l, hl, e⟩ := e; exact ⟨l, h _ _ hl, e⟩
  | .nilp, v, e => by simpa [cv] using e
  | .sl b o n (some c), v, e => by
    simp only [cv, Option.map_eq_some_iff] at e ⊢
    obtain ⟨l, hl, e⟩ := e; exact ⟨l, h _ _ hl, e⟩
  | .sl b o n none, v, e => by
    simp only [cv, Option.map_eq_some_iff] at e ⊢
    obtain ⟨l, hl, e⟩ := e; exact ⟨l, h _ _ hl, e⟩
  | .etail b o k s, v, e => by
    simp only [cv, Option.map_eq_some_iff] at e ⊢
    obtain ⟨l, hl, e⟩ := e; exact ⟨l, h _ _ hl, e⟩
  | .nils, v, e => by simpa [cv] using e
  | .mp b, v, e => by
    simp only [cv, Option.map_eq_some_iff] at e ⊢
    obtain ⟨l, hl, e⟩ := e; exact ⟨l, h _ _ hl, e⟩
  | .nilm, v, e => by simpa [cv] using e
  | .fn f a c, v, e => by
    simp only [cv, Option.bind_eq_some_iff, Option.map_eq_some_iff] at e ⊢
    obtain ⟨x, hx, y, hy, e⟩ := e; exact ⟨x, cvs_mono h _ _ hx, y, cvs_mono h _ _ hy, e⟩
  | .nilfn, v, e => by simpa [cv] using e
  | .iface t a, v, e => by
    simp only [cv, Option.map_eq_some_iff] at e ⊢
    obtain ⟨x, hx, e⟩ := e; exact ⟨x, cv_mono h _ _ hx, e⟩
  | .nili, v, e => by simpa [cv] using e
  | .agg l, v, e => by
    simp only [cv, Option.map_eq_some_iff] at e ⊢
    obtain ⟨x, hx, e⟩ := e; exact ⟨x, cvs_mono h _ _ hx, e⟩
  | .tup l, v, e => by
    simp only [cv, Option.map_eq_some_iff] at e ⊢
    obtain ⟨x, hx, e⟩ := e; exact ⟨x, cvs_mono h _ _ hx, e⟩
  | .raw v, x, e => by simpa [cv] using e
theorem cvs_mono {E E' : Env} (h : E.le E') : ∀ (a : List AVal) (v : List Value), cvs E a = some v → cvs E' a = some v
  | [], v, e => by simpa [cvs] using e
  | a :: l, v, e => by
    simp only [cvs, Option.bind_eq_some_iff, Option.map_eq_some_iff] at e ⊢
    obtain ⟨x, hx, y, hy, e⟩ := e; exact ⟨x, cv_mono h _ _ hx, y, cvs_mono h _ _ hy, e⟩
end

/-! ### The heap -/
inductive PM (α : Type) where
  | nil
  | node (v : Option α) (l r : PM α)
def PM.get {α : Type} : PM α → Nat → Option α
  | .nil, _ => none
  | .node v l r, i => if i = 0 then v else if i % 2 = 1 then l.get (i / 2) else r.get (i / 2 - 1)
def PM.setF {α : Type} : Nat → PM α → Nat → α → PM α
  | 0, m, _, _ => m
  | f + 1, .nil, i, x => if i = 0 then .node (some x) .nil .nil else if i % 2 = 1 then .node none (PM.setF f .nil (i / 2) x) .nil else .node none .nil (PM.setF f .nil (i / 2 - 1) x)
  | f + 1, .node v l r, i, x => if i = 0 then .node (some x) l r else if i % 2 = 1 then .node v (PM.setF f l (i / 2) x) r else .node v l (PM.setF f r (i / 2 - 1) x)
def PM.set {α : Type} (m : PM α) (i : Nat) (x : α) : PM α := PM.setF (i + 1) m i x

theorem PM.get_setF {α : Type} (x : α) : ∀ (f : Nat) (m : PM α) (i j : Nat), i < f → (PM.setF f m i x).get j = if j = i then some x else m.get j
  | 0, m, i, j, h => by omega
  | f + 1, .nil, i, j, h => by
    simp only [PM.setF]
    by_cases hi : i = 0
    · rw [if_pos hi]; simp only [PM.get]; subst hi
      by_cases hj : j = 0
      · simp [hj]
      · simp [hj]
    · rw [if_neg hi]
      by_cases ho : i % 2 = 1
      · rw [if_pos ho]; simp only [PM.get]
        by_cases hj : j = 0
        · rw [if_pos hj, if_neg (by omega)]
        · rw [if_neg hj]
          by_cases hjo : j % 2 = 1
          · rw [if_pos hjo, PM.get_setF x f .nil (i / 2) (j / 2) (by omega)]
            by_cases e : j = i
            · rw [if_pos (by omega), if_pos e]
            · rw [if_neg (by omega), if_neg e]; rfl
          · rw [if_neg hjo, if_neg (by omega)]
      · rw [if_neg ho]; simp only [PM.get]
        by_cases hj : j = 0
        · rw [if_pos hj, if_neg (by omega)]
        · rw [if_neg hj]
          by_cases hjo : j % 2 = 1
          · rw [if_pos hjo, if_neg (by omega)]
          · rw [if_neg hjo, PM.get_setF x f .nil (i / 2 - 1) (j / 2 - 1) (by omega)]
            by_cases e : j = i
            · rw [if_pos (by omega), if_pos e]
            · rw [if_neg (by omega), if_neg e]; rfl
  | f + 1, .node v l r, i, j, h => by
    simp only [PM.setF]
    by_cases hi : i = 0
    · rw [if_pos hi]; simp only [PM.get]; subst hi
      by_cases hj : j = 0
      · simp [hj]
      · simp [hj]
    · rw [if_neg hi]
      by_cases ho : i % 2 = 1
      · rw [if_pos ho]; simp only [PM.get]
        by_cases hj : j = 0
        · rw [if_pos hj, if_pos hj, if_neg (by omega)]
        · rw [if_neg hj, if_neg hj]
          by_cases hjo : j % 2 = 1
          · rw [if_pos hjo, if_pos hjo, PM.get_setF x f l (i / 2) (j / 2) (by omega)]
            by_cases e : j = i
            · rw [if_pos (by omega), if_pos e]
            · rw [if_neg (by omega), if_neg e]
          · rw [if_neg hjo, if_neg hjo, if_neg (by omega)]
      · rw [if_neg ho]; simp only [PM.get]
        by_cases hj : j = 0
        · rw [if_pos hj, if_pos hj, if_neg (by omega)]
        · rw [if_neg hj, if_neg hj]
          by_cases hjo : j % 2 = 1
          · rw [if_pos hjo, if_pos hjo, if_neg (by omega)]
          · rw [if_neg hjo, if_neg hjo, PM.get_setF x f r (i / 2 - 1) (j / 2 - 1) (by omega)]
            by_cases e : j = i
            · rw [if_pos (by omega), if_pos e]
            · rw [if_neg (by omega), if_neg e]
theorem PM.get_set {α : Type} (m : PM α) (i j : Nat) (x : α) : (m.set i x).get j = if j = i then some x else m.get j := PM.get_setF x (i + 1) m i j (by omega)

/-- How a block may be written: not at all; it is as long as it is; it may have room behind it. -/
inductive Mode where
  | ro | fixed | elastic
  deriving DecidableEq
inductive ABlk where
  | dead
  | cells (l : List AVal) (elem : TypeId) (es : Nat) (m : Mode)
  | map (es : List (AVal × AVal))
def ABlk.rw : ABlk → Bool
  | .cells _ _ _ .ro => false
  | .dead => false
  | _ => true
def ABlk.alive : ABlk → Bool
  | .dead => false
  | _ => true
structure AHeap where
  n : Nat
  m : PM ABlk
def AHeap.get (H : AHeap) (b : Nat) : ABlk := (H.m.get b).getD .dead
def AHeap.set (H : AHeap) (b : Nat) (x : ABlk) : AHeap := { H with m := H.m.set b x }
def AHeap.push (H : AHeap) (x : ABlk) : AHeap := { n := H.n + 1, m := H.m.set H.n x }
theorem AHeap.get_set (H : AHeap) (b c : Nat) (x : ABlk) : (H.set b x).get c = if c = b then x else H.get c := by
  simp only [AHeap.get, AHeap.set, PM.get_set]; by_cases h : c = b <;> simp [h]
theorem AHeap.get_push (H : AHeap) (c : Nat) (x : ABlk) : (H.push x).get c = if c = H.n then x else H.get c := by
  simp only [AHeap.get, AHeap.push, PM.get_set]; by_cases h : c = H.n <;> simp [h]
@[simp] theorem AHeap.n_set (H : AHeap) (b : Nat) (x : ABlk) : (H.set b x).n = H.n := rfl
@[simp] theorem AHeap.n_push (H : AHeap) (x : ABlk) : (H.push x).n = H.n + 1 := rfl
end Go.Eng

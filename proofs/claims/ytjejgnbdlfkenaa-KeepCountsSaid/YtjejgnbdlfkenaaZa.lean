/- Values of an abstract machine that follows the model, whatever the tape says: numbers of blocks are its own, a row that append made has a capacity that is not known. Plain definitions and laws; no program.
The code of the abstract machine, and how it is made of the model's: each operation with the sizes that its types tell. Plain definitions.
Functions of the abstract machine: their code, and how it is made of the model's. Plain definitions.
The abstract machine's memory, and when the model's memory is one that it stands for.
What an operation of the abstract machine does. Plain definitions.
The operations of the abstract machine do what the model's do: the first part.
The operations of the abstract machine do what the model's do: values, loads, what is laid.
The operations of the abstract machine do what the model's do: what is stored, what is built.
The operations of the abstract machine do what the model's do: slices, indexes, conversions, numbers. -/
import GoSem.Core.World
import GoSem.Core.Code
import GoSem.Core.Region
import GoSem.Core.View
import GoSem.Core.Layout
import GoSem.Dispatch
import Derived.Laws.Sem
import Derived.OrdersIn
import Derived.RangeFuncIn
import Derived.RangeFuncLeaves
namespace Go.Proofs.Ytjejgnbdlfkenaa.D

/-- A store by numbers. -/
inductive Tr (α : Type) where
  | lf : Tr α
  | nd (l : Tr α) (v : Option α) (r : Tr α) : Tr α

namespace Tr
variable {α : Type}

noncomputable def get (t : Tr α) : Nat → Option α :=
  Tr.rec (motive := fun _ => Nat → Option α) (fun _ => none)
    (fun _ v _ gl gr k => match k with
      | 0 => v
      | k + 1 => match Nat.beq (k % 2) 0 with
        | true => gl (k / 2)
        | false => gr (k / 2)) t

theorem get_lf (k : Nat) : (Tr.lf : Tr α).get k = none := rfl
theorem get_nd_zero (l : Tr α) (v : Option α) (r : Tr α) : (Tr.nd l v r).get 0 = v := rfl
theorem get_nd_succ (l : Tr α) (v : Option α) (r : Tr α) (k : Nat) : (Tr.nd l v r).get (k + 1) = match Nat.beq (k % 2) 0 with | true => l.get (k / 2) | false => r.get (k / 2) := rfl

/-- A store of one. -/
noncomputable def one (v : Option α) (n : Nat) : Nat → Tr α :=
  Nat.rec (motive := fun _ => Nat → Tr α) (fun _ => .lf)
    (fun _ ih k => match k with
      | 0 => .nd .lf v .lf
      | k + 1 => match Nat.beq (k % 2) 0 with
        | true => .nd (ih (k / 2)) none .lf
        | false => .nd .lf none (ih (k / 2))) n

theorem one_zero (v : Option α) (n : Nat) : one v (n + 1) 0 = .nd .lf v .lf := rfl
theorem one_succ (v : Option α) (n k : Nat) : one v (n + 1) (k + 1) = match Nat.beq (k % 2) 0 with | true => .nd (one v n (k / 2)) none .lf | false => .nd .lf none (one v n (k / 2)) := rfl

noncomputable def put (v : Option α) (t : Tr α) : Nat → Tr α :=
  Tr.rec (motive := fun _ => Nat → Tr α) (fun k => one v (k + 1) k)
    (fun l x r pl pr k => match k with
      | 0 => .nd l v r
      | k + 1 => match Nat.beq (k % 2) 0 with
        | true => .nd (pl (k / 2)) x r
        | false => .nd l x (pr (k / 2))) t

theorem put_lf (v : Option α) (k : Nat) : put v .lf k = one v (k + 1) k := rfl
theorem put_nd_zero (v : Option α) (l : Tr α) (x : Option α) (r : Tr α) : put v (.nd l x r) 0 = .nd l v r := rfl
theorem put_nd_succ (v : Option α) (l : Tr α) (x : Option α) (r : Tr α) (k : Nat) : put v (.nd l x r) (k + 1) = match Nat.beq (k % 2) 0 with | true => .nd (put v l (k / 2)) x r | false => .nd l x (put v r (k / 2)) := rfl

noncomputable def set (t : Tr α) (k : Nat) (v : α) : Tr α := put (some v) t k
noncomputable def unset (t : Tr α) (k : Nat) : Tr α := put none t k

theorem beq_mod (k : Nat) : Nat.beq (k % 2) 0 = decide (k % 2 = 0) := by
  rcases Nat.mod_two_eq_zero_or_one k with h | h <;> rw [h] <;> rfl

theorem get_one (v : Option α) : ∀ (n k j : Nat), k < n → (one v n k).get j = if j = k then v else none := by
  intro n
  induction n with
  | zero => intro k j h; omega
  | succ n ih =>
    intro k j h
    cases k with
    | zero => cases j with
      | zero => rfl
      | succ j =>
        rw [if_neg (by omega)]
        simp only [one_zero, get_nd_succ]
        split <;> rfl
    | succ k =>
      have hk : k / 2 < n := by omega
      simp only [one_succ, beq_mod]
      by_cases hp : k % 2 = 0
      · simp only [hp, decide_true]
        cases j with
        | zero => rw [get_nd_zero, if_neg (by omega)]
        | succ j =>
          simp only [get_nd_succ, beq_mod]
          by_cases hj : j % 2 = 0
          · simp only [hj, decide_true]
            rw [ih _ _ hk]
            by_cases e : j / 2 = k / 2
            · rw [if_pos e, if_pos (by omega)]
            · rw [if_neg e, if_neg (by omega)]
          · simp only [hj, decide_false]
            rw [get_lf, if_neg (by omega)]
      · simp only [hp, decide_false]
        cases j with
        | zero => rw [get_nd_zero, if_neg (by omega)]
        | succ j =>
          simp only [get_nd_succ, beq_mod]
          by_cases hj : j % 2 = 0
          · simp only [hj, decide_true]
            rw [get_lf, if_neg (by omega)]
          · simp only [hj, decide_false]
            rw [ih _ _ hk]
            by_cases e : j / 2 = k / 2
            · rw [if_pos e, if_pos (by omega)]
            · rw [if_neg e, if_neg (by omega)]

theorem get_put (v : Option α) : ∀ (t : Tr α) (k j : Nat), (put v t k).get j = if j = k then v else t.get j := by
  intro t
  induction t with
  | lf => intro k j; rw [put_lf, get_one v _ _ _ (by omega), get_lf]
  | nd l x r ihl ihr =>
    intro k j
    cases k with
    | zero => cases j with
      | zero => rfl
      | succ j => rw [if_neg (by omega)]; rfl
    | succ k =>
      simp only [put_nd_succ, beq_mod]
      by_cases hp : k % 2 = 0
      · simp only [hp, decide_true]
        cases j with
        | zero => rw [get_nd_zero, if_neg (by omega)]; rfl
        | succ j =>
          simp only [get_nd_succ, beq_mod]
          by_cases hj : j % 2 = 0
          · simp only [hj, decide_true]
            rw [ihl]
            by_cases e : j / 2 = k / 2
            · rw [if_pos e, if_pos (by omega)]
            · rw [if_neg e, if_neg (by omega)]
          · simp only [hj, decide_false]
            rw [if_neg (by omega)]
      · simp only [hp, decide_false]
        cases j with
        | zero => rw [get_nd_zero, if_neg (by omega)]; rfl
        | succ j =>
          simp only [get_nd_succ, beq_mod]
          by_cases hj : j % 2 = 0
          · simp only [hj, decide_true]
            rw [if_neg (by omega)]
          · simp only [hj, decide_false]
            rw [ihr]
            by_cases e : j / 2 = k / 2
            · rw [if_pos e, if_pos (by omega)]
            · rw [if_neg e, if_neg (by omega)]

theorem get_set (t : Tr α) (k j : Nat) (v : α) : (t.set k v).get j = if j = k then some v else t.get j := get_put _ _ _ _
theorem get_unset (t : Tr α) (k j : Nat) : (t.unset k).get j = if j = k then none else t.get j := get_put _ _ _ _
end Tr

/-- Abstract values. -/
inductive AV where
  | bool (b : Bool)
  | int (k : IntKind) (n : Int)
  | str (s : ByteArray)
  | ptr (b o : Nat)
  | nilPtr
  | slice (b o len cap : Nat) (loose : Bool)
  | nilSlice
  | tail (b o adv : Nat)
  | map (r : Nat)
  | nilMap
  | fn (f : Fn) (first captured : List AV)
  | yld (r : Nat)
  | nilFn
  | iface (t : TypeId) (v : AV)
  | nilIface
  | agg (l : List AV)
  | tup (l : List AV)
  | raw (v : Value)

/-- Where abstract blocks lie, and by how many elements their capacity is greater than told. -/
abbrev Place := Nat → Option (Nat × Nat)

def Fn.plain : Fn → Bool
  | .yield _ => false
  | _ => true

/-- May a value be left as it is, unread? -/
def rawOk : Value → Bool
  | .agg _ | .tuple _ => false
  | _ => true

mutual
/-- The value that an abstract one stands for. -/
def conc (μ : Place) : AV → Option Value
  | .bool b => some (.bool b)
  | .int k n => some (.int k n)
  | .str s => some (.string s)
  | .ptr b o => (μ b).map fun p => .pointer (some ⟨p.1, o, none⟩)
  | .nilPtr => some (.pointer none)
  | .slice b o len cap loose => (μ b).map fun p => .slice (some ⟨p.1, o, none⟩) len (if loose then cap + p.2 else cap)
  | .nilSlice => some (.slice none 0 0)
  | .tail b o adv => (μ b).map fun p => .slice (some ⟨p.1, if p.2 = 0 then o else o + adv, none⟩) 0 p.2
  | .map r => (μ r).map fun p => .map (some p.1)
  | .nilMap => some (.map none)
  | .fn f first captured => if Fn.plain f then
      (concs μ first).bind fun x => (concs μ captured).map fun y => .func f x.toArray y.toArray else none
  | .yld r => (μ r).map fun p => .func (.yield p.1) #[] #[]
  | .nilFn => some .nilFunc
  | .iface t v => (conc μ v).map fun x => .iface t x
  | .nilIface => some .nilIface
  | .agg l => (concs μ l).map fun x => .agg x.toArray
  | .tup l => (concs μ l).map fun x => .tuple x.toArray
  | .raw v => some v
def concs (μ : Place) : List AV → Option (List Value)
  | [] => some []
  | v :: r => (conc μ v).bind fun x => (concs μ r).map fun y => x :: y
end

def Place.le (μ ν : Place) : Prop := ∀ b p, μ b = some p → ν b = some p
theorem Place.le_refl (μ : Place) : μ.le μ := fun _ _ h => h
theorem Place.le_trans {a b c : Place} (h : a.le b) (k : b.le c) : a.le c := fun x p e => k x p (h x p e)

mutual
theorem conc_mono {μ ν : Place} (h : μ.le ν) : ∀ (v : AV) (x : Value), conc μ v = some x → conc ν v = some x
  | .bool _, _, e => e
  | .int _ _, _, e => e
  | .str _, _, e => e
  | .nilPtr, _, e => e
  | .nilSlice, _, e => e
  | .nilMap, _, e => e
  | .nilFn, _, e => e
  | .nilIface, _, e => e
  | .raw _, _, e => e
  | .ptr b o, x, e => by
    simp only [conc, Option.map_eq_some_iff] at e ⊢
    obtain ⟨p, hp, e⟩ := e; exact ⟨p, h _ _ hp, e⟩
  | .slice b o l c z, x, e => by
    simp only [conc, Option.map_eq_some_iff] at e ⊢
    obtain ⟨p, hp, e⟩ := e; exact ⟨p, h _ _ hp, e⟩
  | .tail b o a, x, e => by
    simp only [conc, Option.map_eq_some_iff] at e ⊢
    obtain ⟨p, hp, e⟩ := e; exact ⟨p, h _ _ hp, e⟩
  | .map r, x, e => by
    simp only [conc, Option.map_eq_some_iff] at e ⊢
    obtain ⟨p, hp, e⟩ := e; exact ⟨p, h _ _ hp, e⟩
  | .yld r, x, e => by
    simp only [conc, Option.map_eq_some_iff] at e ⊢
    obtain ⟨p, hp, e⟩ := e; exact ⟨p, h _ _ hp, e⟩
  | .fn f a c, x, e => by
    simp only [conc] at e ⊢
    split at e
    · rename_i hf
      rw [if_pos hf]
      simp only [Option.bind_eq_some_iff, Option.map_eq_some_iff] at e ⊢
      obtain ⟨y, hy, z, hz, e⟩ := e
      exact ⟨y, concs_mono h a y hy, z, concs_mono h c z hz, e⟩
    · cases e
  | .iface t v, x, e => by
    simp only [conc, Option.map_eq_some_iff] at e ⊢
    obtain ⟨y, hy, e⟩ := e; exact ⟨y, conc_mono h v y hy, e⟩
  | .agg l, x, e => by
    simp only [conc, Option.map_eq_some_iff] at e ⊢
    obtain ⟨y, hy, e⟩ := e; exact ⟨y, concs_mono h l y hy, e⟩
  | .tup l, x, e => by
    simp only [conc, Option.map_eq_some_iff] at e ⊢
    obtain ⟨y, hy, e⟩ := e; exact ⟨y, concs_mono h l y hy, e⟩
theorem concs_mono {μ ν : Place} (h : μ.le ν) : ∀ (l : List AV) (x : List Value), concs μ l = some x → concs ν l = some x
  | [], _, e => e
  | v :: r, x, e => by
    simp only [concs, Option.bind_eq_some_iff, Option.map_eq_some_iff] at e ⊢
    obtain ⟨y, hy, z, hz, e⟩ := e
    exact ⟨y, conc_mono h v y hy, z, concs_mono h r z hz, e⟩
end

theorem concs_length {μ : Place} : ∀ {l : List AV} {x : List Value}, concs μ l = some x → x.length = l.length
  | [], x, e => by simp only [concs, Option.some.injEq] at e; subst e; rfl
  | v :: r, x, e => by
    simp only [concs, Option.bind_eq_some_iff, Option.map_eq_some_iff] at e
    obtain ⟨y, _, z, hz, rfl⟩ := e
    simp [concs_length hz]

theorem concs_get {μ : Place} : ∀ {l : List AV} {x : List Value}, concs μ l = some x → ∀ (i : Nat) (v : AV), l[i]? = some v → ∃ c, x[i]? = some c ∧ conc μ v = some c
  | [], _, _, i, v, h => by simp at h
  | v :: r, x, e, i, u, h => by
    simp only [concs, Option.bind_eq_some_iff, Option.map_eq_some_iff] at e
    obtain ⟨y, hy, z, hz, rfl⟩ := e
    cases i with
    | zero => simp only [List.getElem?_cons_zero, Option.some.injEq] at h; subst h; exact ⟨y, by simp, hy⟩
    | succ i => simp only [List.getElem?_cons_succ] at h; obtain ⟨c, hc, h'⟩ := concs_get hz i u h; exact ⟨c, by simpa using hc, h'⟩

theorem concs_get' {μ : Place} : ∀ {l : List AV} {x : List Value}, concs μ l = some x → ∀ (i : Nat) (c : Value), x[i]? = some c → ∃ v, l[i]? = some v ∧ conc μ v = some c := by
  intro l x h i c hc
  have hlt : i < l.length := by rw [← concs_length h]; exact (List.getElem?_eq_some_iff.1 hc).1
  obtain ⟨c', h1, h2⟩ := concs_get h i l[i] (List.getElem?_eq_getElem hlt)
  rw [hc] at h1; cases h1
  exact ⟨_, List.getElem?_eq_getElem hlt, h2⟩

theorem concs_append {μ : Place} : ∀ {l m : List AV} {x y : List Value}, concs μ l = some x → concs μ m = some y → concs μ (l ++ m) = some (x ++ y)
  | [], m, x, y, e, f => by simp only [concs, Option.some.injEq] at e; subst e; simpa using f
  | v :: r, m, x, y, e, f => by
    simp only [concs, Option.bind_eq_some_iff, Option.map_eq_some_iff] at e
    obtain ⟨u, hu, z, hz, rfl⟩ := e
    simp only [List.cons_append, concs, Option.bind_eq_some_iff, Option.map_eq_some_iff]
    exact ⟨u, hu, _, concs_append hz f, rfl⟩

theorem concs_take {μ : Place} : ∀ {l : List AV} {x : List Value}, concs μ l = some x → ∀ n, concs μ (l.take n) = some (x.take n)
  | [], x, e, n => by simp only [concs, Option.some.injEq] at e; subst e; simp [concs]
  | v :: r, x, e, n => by
    simp only [concs, Option.bind_eq_some_iff, Option.map_eq_some_iff] at e
    obtain ⟨u, hu, z, hz, rfl⟩ := e
    cases n with
    | zero => simp [concs]
    | succ n => simp only [List.take_succ_cons, concs, Option.bind_eq_some_iff, Option.map_eq_some_iff]; exact ⟨u, hu, _, concs_take hz n, rfl⟩

theorem concs_drop {μ : Place} : ∀ {l : List AV} {x : List Value}, concs μ l = some x → ∀ n, concs μ (l.drop n) = some (x.drop n)
  | [], x, e, n => by simp only [concs, Option.some.injEq] at e; subst e; simp [concs]
  | v :: r, x, e, n => by
    have e' := e
    simp only [concs, Option.bind_eq_some_iff, Option.map_eq_some_iff] at e
    obtain ⟨u, hu, z, hz, rfl⟩ := e
    cases n with
    | zero => simpa using e'
    | succ n => simp only [List.drop_succ_cons]; exact concs_drop hz n

theorem concs_set {μ : Place} : ∀ {l : List AV} {x : List Value}, concs μ l = some x → ∀ (i : Nat) {v : AV} {c : Value}, conc μ v = some c → concs μ (l.set i v) = some (x.set i c)
  | [], x, e, i, v, c, h => by simp only [concs, Option.some.injEq] at e; subst e; simp [concs]
  | a :: r, x, e, i, v, c, h => by
    simp only [concs, Option.bind_eq_some_iff, Option.map_eq_some_iff] at e
    obtain ⟨u, hu, z, hz, rfl⟩ := e
    cases i with
    | zero => simp only [List.set_cons_zero, concs, Option.bind_eq_some_iff, Option.map_eq_some_iff]; exact ⟨c, h, z, hz, rfl⟩
    | succ i => simp only [List.set_cons_succ, concs, Option.bind_eq_some_iff, Option.map_eq_some_iff]; exact ⟨u, hu, _, concs_set hz i h, rfl⟩

theorem concs_replicate {μ : Place} (n : Nat) {v : AV} {c : Value} (h : conc μ v = some c) : concs μ (List.replicate n v) = some (List.replicate n c) := by
  induction n with
  | zero => simp [concs]
  | succ n ih => simp only [List.replicate_succ, concs, h, ih, Option.bind_some, Option.map_some]

/-- Is it the value of one cell? -/
def AV.cell : AV → Bool
  | .agg _ | .tup _ => false
  | .raw v => rawOk v
  | _ => true

def AV.cells : AV → List AV
  | .agg l => l
  | .raw v => v.cells.toList.map .raw
  | v => [v]

theorem concs_raw (μ : Place) : ∀ l : List Value, concs μ (l.map .raw) = some l
  | [] => rfl
  | v :: r => by simp [concs, conc, concs_raw μ r]

theorem conc_cells {μ : Place} {v : AV} {x : Value} (h : conc μ v = some x) : concs μ v.cells = some x.cells.toList := by
  cases v with
  | agg l =>
    simp only [conc, Option.map_eq_some_iff] at h
    obtain ⟨y, hy, rfl⟩ := h
    simpa [AV.cells, Value.cells] using hy
  | fn f a c =>
    have h' := h
    simp only [conc] at h
    split at h
    · simp only [Option.bind_eq_some_iff, Option.map_eq_some_iff] at h
      obtain ⟨y, _, z, _, rfl⟩ := h
      simp [AV.cells, Value.cells, concs, h']
    · cases h
  | tup l =>
    have h' := h
    simp only [conc, Option.map_eq_some_iff] at h
    obtain ⟨y, _, rfl⟩ := h
    simp [AV.cells, Value.cells, concs, h']
  | raw v =>
    simp only [conc, Option.some.injEq] at h
    subst h
    exact concs_raw μ _
  | _ =>
    have h' := h
    simp only [conc, Option.map_eq_some_iff, Option.some.injEq] at h
    first
      | (subst h; simp [AV.cells, Value.cells, concs, conc])
      | (obtain ⟨p, _, rfl⟩ := h; simp [AV.cells, Value.cells, concs, h'])

theorem conc_cell {μ : Place} {v : AV} {x : Value} (h : conc μ v = some x) (hc : v.cell = true) : ∀ l, x ≠ .agg l ∧ x ≠ .tuple l := by
  intro l
  cases v with
  | agg l => simp [AV.cell] at hc
  | tup l => simp [AV.cell] at hc
  | raw v =>
    simp only [conc, Option.some.injEq] at h
    subst h
    cases v <;> first | (simp [AV.cell, rawOk] at hc; done) | exact ⟨by simp, by simp⟩
  | fn f a c =>
    simp only [conc] at h
    split at h
    · simp only [Option.bind_eq_some_iff, Option.map_eq_some_iff] at h
      obtain ⟨y, _, z, _, rfl⟩ := h
      exact ⟨by simp, by simp⟩
    · cases h
  | _ =>
    simp only [conc, Option.map_eq_some_iff, Option.some.injEq] at h
    first
      | (subst h; exact ⟨by simp, by simp⟩)
      | (obtain ⟨p, _, rfl⟩ := h; exact ⟨by simp, by simp⟩)
end Go.Proofs.Ytjejgnbdlfkenaa.D
namespace Go.Proofs.Ytjejgnbdlfkenaa.D

/-- An operand. -/
inductive X where
  | t (n : Nat)
  | c (v : AV)

def absL : Value → Option AV
  | .bool b => some (.bool b)
  | .int k n => some (.int k n)
  | .string s => some (.str s)
  | .pointer none => some .nilPtr
  | .slice none 0 0 => some .nilSlice
  | .map none => some .nilMap
  | .nilFunc => some .nilFn
  | .nilIface => some .nilIface
  | _ => none

def absLs : List Value → Option (List AV)
  | [] => some []
  | v :: r => match absL v with
    | some a => match absLs r with
      | some l => some (a :: l)
      | none => none
    | none => none

/-- The abstract value of a constant. -/
def absV : Value → Option AV
  | .agg cs => (absLs cs.toList).map .agg
  | .iface t v => (absL v).map (.iface t)
  | .func (.func f) a b => if a.isEmpty && b.isEmpty then some (.fn (.func f) [] []) else none
  | v => absL v

theorem absL_conc {v : Value} {a : AV} (h : absL v = some a) (μ : Place) : conc μ a = some v := by
  unfold absL at h
  split at h <;> first | (cases h; rfl) | cases h

theorem absLs_conc (μ : Place) : ∀ {l : List Value} {a : List AV}, absLs l = some a → concs μ a = some l
  | [], a, h => by simp only [absLs, Option.some.injEq] at h; subst h; rfl
  | v :: r, a, h => by
    unfold absLs at h
    split at h
    · rename_i x hx
      split at h
      · rename_i y hy
        cases h
        simp only [concs, absL_conc hx μ, absLs_conc μ hy, Option.bind_some, Option.map_some]
      · cases h
    · cases h

theorem absV_conc {v : Value} {a : AV} (h : absV v = some a) (μ : Place) : conc μ a = some v := by
  unfold absV at h
  split at h
  · rename_i cs
    simp only [Option.map_eq_some_iff] at h
    obtain ⟨l, hl, rfl⟩ := h
    simp only [conc, absLs_conc μ hl, Option.map_some]
  · simp only [Option.map_eq_some_iff] at h
    obtain ⟨l, hl, rfl⟩ := h
    simp only [conc, absL_conc hl μ, Option.map_some]
  · rename_i f x y
    split at h
    · rename_i e
      cases h
      have e1 : x = #[] := by simp at e; exact e.1
      have e2 : y = #[] := by simp at e; exact e.2
      subst e1; subst e2
      simp [conc, Fn.plain, concs]
    · cases h
  · exact absL_conc h μ

def prepX : Operand → Option X
  | .tmp t => some (.t t)
  | .const v => (absV v).map .c
  | .func f => some (.c (.fn (.func f) [] []))
  | .global _ => none

def prepXs : List Operand → Option (List X)
  | [] => some []
  | x :: r => match prepX x with
    | some a => match prepXs r with
      | some l => some (a :: l)
      | none => none
    | none => none

/-- How two values of a type are held against one another. -/
inductive EqK where
  | leaf
  | ptr
  | slice
  | map
  | func
  | iface
  | cells (ks : List Nat)
  | no

/-- A map's keys: whole numbers. -/
inductive POp where
  | move (x : X)
  | pick (c a b : X)
  | alloc (zero : List AV)
  | box (x : X)
  | build (zero : List AV) (parts : List (Nat × Nat × X))
  | buildSlice (cells : List AV) (len : Nat) (parts : List (Nat × Nat × X)) (esz : Nat)
  | load1 (a : X)
  | loadN (n : Nat) (a : X)
  | store (n : Nat) (a v : X)
  | nilCheck (x : X)
  | bin (op : BinOp) (e : EqK) (x y : X)
  | un (op : UnOp) (x : X)
  | convInt (k : IntKind) (x : X)
  | convSame (x : X)
  | convStr (esz : Nat) (x : X)
  | convBytes (x : X)
  | mkIface (t : TypeId) (x : X)
  | mkFunc (f : Fn) (first captured : List X)
  | mkMap
  | mkSlice (esz ebytes : Nat) (zero : List AV) (l c : X)
  | sliceSl (esz : Nat) (x : X) (lo hi mx : Option X)
  | sliceStr (x : X) (lo hi : Option X)
  | sliceArr (n esz : Nat) (x : X) (lo hi mx : Option X)
  | fieldAddr (off : Nat) (x : X)
  | field (off : Nat) (n : Option Nat) (x : X)
  | idxArr (len esz : Nat) (x i : X)
  | idxSl (esz : Nat) (x i : X)
  | idxAgg (len esz : Nat) (agg : Bool) (x i : X)
  | idxStr (x i : X)
  | lookup (zero : AV) (m k : X) (ok : Bool)
  | mapUpd (m k v : X)
  | range (x : X)
  | next (x : X)
  | entry (x : X)
  | extract (x : X) (i : Nat)
  | call (f : X) (args : List X)
  | append (esz ebytes : Nat) (zero : List AV) (s x : X)
  | appendN (esz ebytes : Nat) (zero : List AV) (s x : X)
  | copy (esz : Nat) (d s : X)
  | len (k : Nat) (x : X)
  | lenArr (n : Nat)
  | cap (x : X)
  | minmax (mx : Bool) (l : List X)
  | clear (zero : List AV) (x : X)
  | clearMap (x : X)
  | delete (m k : X)
  | fail

section
variable (P : Program)

def isAggB (t : TypeId) : Option Bool :=
  match P.underlying t with
  | some (.struct _) | some (.array _ _) => some true
  | some _ => some false
  | none => none

def sizeB (t : TypeId) : Option Nat := (P.info? t).map (·.size)
def bytesB (t : TypeId) : Option Nat := (P.info? t).map (·.bytes)
/-- The cells of a type's zero value. -/
def zeroB (t : TypeId) : Option (List AV) :=
  match (P.info? t).bind (·.zero) with
  | some v => absLs v.cells.toList
  | none => none
def zeroV (t : TypeId) : Option AV :=
  match (P.info? t).bind (·.zero) with
  | some v => absV v
  | none => none

def isIntKey (t : TypeId) : Bool := match P.underlying t with | some (.int _) => true | _ => false

/-- Is a type one whose values are held against one another cell by cell, each a number, a bool or a text? With its cells' kinds. -/
def flat : Nat → TypeId → Option (List Nat)
  | 0, _ => none
  | d + 1, t => match P.underlying t with
    | some .bool => some [0]
    | some (.int _) => some [1]
    | some .string => some [2]
    | some (.struct fs) =>
      if P.stoodInHeld t then none else
      fs.toList.foldl (fun acc f => match acc with
        | none => none
        | some l => if f.name ≠ "_" && f.offset == l.length then
            match flat d f.type, (P.info? f.type).map (·.size) with
            | some m, some s => if s == m.length then some (l ++ m) else none
            | _, _ => none
          else none) (some [])
    | some (.array n e) =>
      match flat d e, (P.info? e).map (·.size) with
      | some m, some s => if s == m.length then some ((List.replicate n m).flatten) else none
      | _, _ => none
    | _ => none

def isC : Operand → Bool
  | .const _ => true
  | _ => false

def eqK (t : TypeId) (x y : Operand) : EqK :=
  match P.underlying t with
  | some .bool => .leaf
  | some (.pointer _) => .ptr
  | some (.slice _) => .slice
  | some (.map _ _) => .map
  | some (.func _ _ _) => .func
  | some (.interface _) => if isC x || isC y then .iface else .no
  | some (.struct _) | some (.array _ _) =>
    if P.eqGuardType P.depth t then .no else
    match flat P 12 t with
    | some l => .cells l
    | none => .no
  | _ => .no

def fieldOf (t : TypeId) (i : Nat) : Option Field :=
  match P.underlying t with
  | some (.struct fs) => fs[i]?
  | _ => none

def prepParts (place : Nat → Option (Nat × Nat)) : List (Nat × Operand) → Option (List (Nat × Nat × X))
  | [] => some []
  | (i, o) :: r => match place i, prepX o, prepParts place r with
    | some (off, size), some x, some l => some ((off, size, x) :: l)
    | _, _, _ => none

def fieldPlaces (fs : Array Field) : Option (List (Nat × Nat)) :=
  fs.toList.foldr (fun f acc => match sizeB P f.type, acc with
    | some s, some l => some ((f.offset, s) :: l)
    | _, _ => none) (some [])

def optX : Option Operand → Option (Option X)
  | none => some none
  | some o => (prepX o).map some

def isIntD : TypeDesc → Bool
  | .int _ => true
  | _ => false

def prepAppend : List TypeId → List X → Option POp
  | [s, xt], [a, x] => match P.underlying s with
    | some (.slice e) => match P.underlying xt with
      | none => none
      | some d => match sizeB P e, bytesB P e, zeroB P e with
        | some sz, some by', some z => if 1 ≤ sz && z.length == sz && 1 ≤ by' then some (if isIntD d then .appendN sz by' z a x else .append sz by' z a x) else none
        | _, _, _ => none
    | _ => none
  | _, _ => none

def prepCopy : List TypeId → List X → Option POp
  | [d, _], [a, x] => match P.underlying d with
    | some (.slice e) => match sizeB P e with
      | some sz => some (.copy sz a x)
      | none => none
    | _ => none
  | _, _ => none

/-- 0: of a text; 1: of a slice; 2: of a map. -/
def prepLen : List TypeId → List X → Option POp
  | [t], [x] => match P.underlying t with
    | some (.array n _) => some (.lenArr n)
    | some (.pointer e) => match P.underlying e with
      | some (.array n _) => some (.lenArr n)
      | _ => none
    | some .string => some (.len 0 x)
    | some (.slice _) => some (.len 1 x)
    | some (.map _ _) => some (.len 2 x)
    | _ => none
  | _, _ => none

def prepCap : List TypeId → List X → Option POp
  | [t], [x] => match P.underlying t with
    | some (.slice _) => some (.cap x)
    | _ => none
  | _, _ => none

def prepClear : List TypeId → List X → Option POp
  | [t], [x] => match P.underlying t with
    | some (.slice e) => match zeroB P e with
      | some z => some (.clear z x)
      | none => none
    | some (.map _ _) => some (.clearMap x)
    | _ => none
  | _, _ => none

def prepDelete : List TypeId → List X → Option POp
  | [t, _], [m, k] => match P.underlying t with
    | some (.map kt _) => if isIntKey P kt then some (.delete m k) else none
    | _ => none
  | _, _ => none

def prepBuiltin (b : Builtin) (argTypes : List TypeId) (args : List X) : Option POp :=
  match b with
  | .append => prepAppend P argTypes args
  | .copy => prepCopy P argTypes args
  | .len => prepLen P argTypes args
  | .cap => prepCap P argTypes args
  | .min => some (.minmax false args)
  | .max => some (.minmax true args)
  | .clear => prepClear P argTypes args
  | .delete => prepDelete P argTypes args
  | _ => none

def prepOp (o : Oper) : Option POp :=
  match o.op with
  | .move x | .assign x => (prepX x).map .move
  | .pick c a b => match prepX c, prepX a, prepX b with
    | some c, some a, some b => some (.pick c a b)
    | _, _, _ => none
  | .alloc e => (zeroB P e).map .alloc
  | .box _ x => (prepX x).map .box
  | .build t parts => match P.underlying t, zeroB P t with
    | some (.struct fs), some z => match fieldPlaces P fs with
      | some pl => (prepParts (pl[·]?) parts.toList).map (.build z)
      | none => none
    | some (.array _ e), some z => match sizeB P e with
      | some s => (prepParts (fun i => some (i * s, s)) parts.toList).map (.build z)
      | none => none
    | _, _ => none
  | .buildSlice t n parts => match P.underlying t with
    | some (.slice e) => match sizeB P e, zeroB P e with
      | some s, some z => if s == z.length && n * s ≤ 2 ^ 24 then
          (prepParts (fun i => some (i * s, s)) parts.toList).map fun l => .buildSlice (List.replicate n z).flatten n l s
        else none
      | _, _ => none
    | _ => none
  | .load t a => match isAggB P t, sizeB P t, prepX a with
    | some true, some n, some a => some (.loadN n a)
    | some false, _, some a => some (.load1 a)
    | _, _, _ => none
  | .store t a v => match sizeB P t, prepX a, prepX v with
    | some n, some a, some v => some (.store n a v)
    | _, _, _ => none
  | .nilCheck x => (prepX x).map .nilCheck
  | .binOp op t x y _ => match prepX x, prepX y with
    | some a, some b => some (.bin op (eqK P t x y) a b)
    | _, _ => none
  | .unOp op _ x => (prepX x).map (.un op)
  | .convert s d x => match P.underlying s, P.underlying d, prepX x with
    | some (.int _), some (.int k), some x => some (.convInt k x)
    | some .string, some .string, some x => some (.convSame x)
    | some .string, some (.slice e), some x => match P.underlying e, sizeB P e with
      | some (.int .u8), some 1 => some (.convStr 1 x)
      | _, _ => none
    | some (.slice e), some .string, some x => match P.underlying e with
      | some (.int .u8) => some (.convBytes x)
      | _ => none
    | _, _, _ => none
  | .makeInterface t x => match P.underlying t, prepX x with
    | some (.interface _), _ => none
    | some _, some x => some (.mkIface t x)
    | _, _ => none
  | .makeFunc f a c => if Fn.plain f then match prepXs a.toList, prepXs c.toList with
      | some a, some c => some (.mkFunc f a c)
      | _, _ => none
    else none
  | .makeMap _ none => some .mkMap
  | .makeSlice t l c => match P.underlying t with
    | some (.slice e) => match sizeB P e, bytesB P e, zeroB P e, prepX l, prepX c with
      | some s, some b, some z, some l, some c => if s == z.length then some (.mkSlice s b z l c) else none
      | _, _, _, _, _ => none
    | _ => none
  | .slice t x lo hi mx => match P.underlying t, prepX x, optX lo, optX hi, optX mx with
    | some .string, some x, some lo, some hi, some none => some (.sliceStr x lo hi)
    | some (.slice e), some x, some lo, some hi, some mx => (sizeB P e).map fun s => .sliceSl s x lo hi mx
    | some (.pointer a), some x, some lo, some hi, some mx => match P.underlying a with
      | some (.array n e) => (sizeB P e).map fun s => .sliceArr n s x lo hi mx
      | _ => none
    | some (.array n e), some x, some lo, some hi, some mx => (sizeB P e).map fun s => .sliceArr n s x lo hi mx
    | _, _, _, _, _ => none
  | .fieldAddr s x i => match fieldOf P s i, prepX x with
    | some f, some x => match sizeB P f.type with
      | some n => if n = 0 then none else some (.fieldAddr f.offset x)
      | none => none
    | _, _ => none
  | .field s x i => match fieldOf P s i, prepX x with
    | some f, some x => match isAggB P f.type, sizeB P f.type with
      | some true, some n => some (.field f.offset (some n) x)
      | some false, _ => some (.field f.offset none x)
      | _, _ => none
    | _, _ => none
  | .indexAddr t x i => match P.underlying t, prepX x, prepX i with
    | some (.array n e), some x, some i => (sizeB P e).map fun s => .idxArr n s x i
    | some (.slice e), some x, some i => (sizeB P e).map fun s => .idxSl s x i
    | _, _, _ => none
  | .index t x i => match P.underlying t, prepX x, prepX i with
    | some (.array n e), some x, some i => match isAggB P e, sizeB P e with
      | some b, some s => some (.idxAgg n s b x i)
      | _, _ => none
    | some .string, some x, some i => some (.idxStr x i)
    | _, _, _ => none
  | .lookup t m k ok => match P.underlying t with
    | some (.map kt e) => if isIntKey P kt then match zeroV P e, prepX m, prepX k with
        | some z, some m, some k => some (.lookup z m k ok)
        | _, _, _ => none
      else none
    | _ => none
  | .mapUpdate t m k v => match P.underlying t with
    | some (.map kt _) => if isIntKey P kt then match prepX m, prepX k, prepX v with
        | some m, some k, some v => some (.mapUpd m k v)
        | _, _, _ => none
      else none
    | _ => none
  | .range t x => match P.underlying t with
    | some (.map _ _) => (prepX x).map .range
    | _ => none
  | .next x isString => if isString then none else (prepX x).map .next
  | .entry x => (prepX x).map .entry
  | .extract x i => (prepX x).map fun x => .extract x i
  | .call c => match c.callee with
    | .value f => match prepXs c.args.toList with
      | some args => (prepX f).map fun f => .call f args
      | none => none
    | .builtin b => match prepXs c.args.toList with
      | some args => prepBuiltin P b c.argTypes.toList args
      | none => none
    | _ => none
  | _ => none
end
end Go.Proofs.Ytjejgnbdlfkenaa.D
namespace Go.Proofs.Ytjejgnbdlfkenaa.D

/-- An operation in its place: where its value goes, and under which test it is carried out. -/
structure PO where
  dst : Option Nat
  op : POp
  guard : Option (Nat × Bool)

/-- What is looked at behind a region whose order is open: at which operation, and ahead of which great ones it may come. -/
structure Look where
  at_ : Nat
  cs : List Nat

inductive PC where
  | skip
  | region (ops : List PO)
  | drawn (ops : List PO) (looks : List Look)
  | seq (a b : PC)
  | cond (c : X) (a b : PC)
  | block (id : Nat) (a : PC)
  | loop (a : PC)
  | rangeF (f : X) (params : List Nat) (assign body : PC)
  | exit (id : Nat)
  | ret

/-- How a piece of code is left. -/
inductive AExit where
  | normal
  | exit (id : Nat)
  | ret

inductive PRes where
  | tmp (t : Nat)
  | cell1 (t : Nat)
  | cellN (n t : Nat)

structure FD where
  ntmps : Nat
  results : List PRes
  body : PC

def xuse : X → List Nat
  | .t n => [n]
  | .c _ => []
def ouse : Option X → List Nat
  | some x => xuse x
  | none => []

/-- The operands of an operation. -/
def POp.xs : POp → List X
  | .move x | .box x | .load1 x | .loadN _ x | .nilCheck x | .un _ x | .convInt _ x | .convSame x | .convStr _ x | .convBytes x
  | .mkIface _ x | .fieldAddr _ x | .field _ _ x | .range x | .next x | .entry x | .extract x _ | .len _ x | .cap x | .clear _ x | .clearMap x => [x]
  | .pick c a b => [c, a, b]
  | .alloc _ | .mkMap | .lenArr _ | .fail => []
  | .build _ ps => ps.map (·.2.2)
  | .buildSlice _ _ ps _ => ps.map (·.2.2)
  | .store _ a v => [a, v]
  | .bin _ _ x y => [x, y]
  | .mkFunc _ a c => a ++ c
  | .mkSlice _ _ _ l c => [l, c]
  | .sliceSl _ x lo hi mx => x :: (lo.toList ++ hi.toList ++ mx.toList)
  | .sliceStr x lo hi => x :: (lo.toList ++ hi.toList)
  | .sliceArr _ _ x lo hi mx => x :: (lo.toList ++ hi.toList ++ mx.toList)
  | .idxArr _ _ x i | .idxSl _ x i | .idxAgg _ _ _ x i | .idxStr x i => [x, i]
  | .lookup _ m k _ => [m, k]
  | .mapUpd m k v => [m, k, v]
  | .call f args => f :: args
  | .append _ _ _ s x | .appendN _ _ _ s x => [s, x]
  | .copy _ d s => [d, s]
  | .minmax _ l => l
  | .delete m k => [m, k]

def POp.uses (p : POp) : List Nat := p.xs.flatMap xuse

/-- 0: neither looks at memory nor turns it; 1: looks at it; 2: may turn it; 3: lays a block and asks nothing of memory. -/
def POp.cls : POp → Nat
  | .move _ | .pick .. | .build .. | .nilCheck _ | .bin .. | .un .. | .convInt .. | .convSame _ | .mkIface .. | .mkFunc .. | .sliceSl .. | .sliceStr .. | .sliceArr ..
  | .fieldAddr .. | .field .. | .idxArr .. | .idxSl .. | .idxAgg .. | .idxStr .. | .extract .. | .lenArr _ | .cap _ | .minmax .. => 0
  | .load1 _ | .loadN .. | .lookup .. | .convBytes _ | .len .. | .entry _ => 1
  | .alloc _ | .box _ | .buildSlice .. => 3
  | _ => 2

/-- Which operations come before one, by the edges that bind: a set as a number. -/
def befores (ops : List Oper) : List Nat :=
  ops.foldl (fun acc o => acc ++ [o.after.toList.foldl (fun s e => if Region.binds .any e then s ||| 2 ^ e.on ||| acc.getD e.on 0 else s) 0]) []

def edgesOk (ops : List Oper) : Bool :=
  ops.zipIdx.all fun (o, i) => o.after.toList.all fun e => !Region.binds .any e || Nat.blt e.on i

/-- Is an operation ahead of another one, whatever the order? -/
def ahead (bs : List Nat) (i j : Nat) : Bool := (bs.getD j 0).testBit i

def tmpsOk (ps : List PO) (bs : List Nat) : Bool :=
  ps.zipIdx.all fun (p, i) => (p.op.uses ++ (p.guard.map (·.1)).toList).all fun t =>
    ps.zipIdx.all fun (q, j) => q.dst != some t || i == j || ahead bs i j || ahead bs j i

def dstsOk (ps : List PO) : Bool :=
  ps.zipIdx.all fun (p, i) => ps.zipIdx.all fun (q, j) => i == j || p.dst.isNone || p.dst != q.dst

/-- Does it turn memory? -/
def PO.big (p : PO) : Bool := Nat.ble 2 p.op.cls

/-- What turns memory comes in its order; what only lays a block may come sooner. -/
def bigsOk (ps : List PO) (bs : List Nat) : Bool :=
  ps.zipIdx.all fun (p, i) => !p.big || ps.zipIdx.all fun (q, j) => !q.big || !Nat.blt i j || ahead bs i j || q.op.cls == 3

/-- Ahead of which great ones a look may come. -/
def spots (ps : List PO) (bs : List Nat) (i : Nat) : List Nat :=
  (List.range (ps.length + 1)).filter fun c => (match ps[c]? with | some q => q.big | none => true) &&
    ps.zipIdx.all fun (q, j) => !q.big || ((!ahead bs j i || Nat.blt j c) && (!ahead bs i j || Nat.ble c j))

/-- Is it settled which of the great ones come ahead of one? -/
def settled (ps : List PO) (bs : List Nat) (i : Nat) : Bool :=
  ps.zipIdx.all fun (q, j) => !q.big || ahead bs j i || ahead bs i j

/-- The looks that are wanted: at what reads memory, where the order leaves it open at which moment. -/
def looksOf (ps : List PO) (bs : List Nat) : List Look :=
  ps.zipIdx.filterMap fun (p, i) => if p.op.cls == 1 && !settled ps bs i then some { at_ := i, cs := spots ps bs i } else none

/-- The great ones ahead of a look are the first ones; and where its moment is open, its operands, and the test, come of what is ahead of it, and nothing behind it turns them. -/
def readsOk (ps : List PO) (bs : List Nat) : Bool :=
  ps.zipIdx.all fun (p, i) => p.op.cls != 1 ||
    ((ps.zipIdx.all fun (q, j) => !q.big || !ahead bs j i || ps.zipIdx.all fun (r, c) => !r.big || !Nat.blt c j || ahead bs c i) &&
    (settled ps bs i ||
    (p.op.uses ++ (p.guard.map (·.1)).toList).all fun t => ps.zipIdx.all fun (q, j) => q.dst != some t || ahead bs j i))

/-- All that is written lies among the temporaries. -/
def okPOs (n : Nat) : List PO → Bool
  | [] => true
  | p :: r => (match p.dst with | some d => Nat.blt d n | none => true) && okPOs n r

def okNats (n : Nat) : List Nat → Bool
  | [] => true
  | p :: r => Nat.blt p n && okNats n r

def okPC (n : Nat) : PC → Bool
  | .region ops => okPOs n ops
  | .drawn ops _ => okPOs n ops
  | .seq a b => okPC n a && okPC n b
  | .cond _ a b => okPC n a && okPC n b
  | .block _ a => okPC n a
  | .loop a => okPC n a
  | .rangeF _ params a b => okNats n params && okPC n a && okPC n b
  | _ => true

section
variable (P : Program)
def prepPO (ops : List Oper) (o : Oper) : Option PO :=
  match o.guard with
  | none => some { dst := o.dst, op := (prepOp P o).getD .fail, guard := none }
  | some (j, want) => match (ops[j]?).bind (·.dst) with
    | some t => some { dst := o.dst, op := (prepOp P o).getD .fail, guard := some (t, want) }
    | none => none

def prepPOs (ops : List Oper) : List Oper → Option (List PO)
  | [] => some []
  | o :: r => match prepPO P ops o with
    | some p => match prepPOs ops r with
      | some l => some (p :: l)
      | none => none
    | none => none

def prepC : Code → Option PC
  | .skip => some .skip
  | .region _ ops draw => match prepPOs P ops.toList ops.toList with
    | none => none
    | some ps => if draw then
        let bs := befores ops.toList
        if edgesOk ops.toList && tmpsOk ps bs && dstsOk ps && bigsOk ps bs && readsOk ps bs then some (.drawn ps (looksOf ps bs)) else none
      else some (.region ps)
  | .seq a b => match prepC a with
    | none => none
    | some x => match prepC b with
      | none => none
      | some y => some (.seq x y)
  | .cond c a b => match prepX c with
    | none => none
    | some z => match prepC a with
      | none => none
      | some x => match prepC b with
        | none => none
        | some y => some (.cond z x y)
  | .block id a => match prepC a with
    | none => none
    | some x => some (.block id x)
  | .loop a => match prepC a with
    | none => none
    | some x => some (.loop x)
  | .rangeFunc f params assign body => match prepX f with
    | none => none
    | some z => match prepC assign with
      | none => none
      | some x => match prepC body with
        | none => none
        | some y => some (.rangeF z params.toList x y)
  | .exit id => some (.exit id)
  | .ret => some .ret
  | _ => none

def prepRes : ResultVar → Option PRes
  | .tmp t => some (.tmp t)
  | .cell a t => match isAggB P t, sizeB P t with
    | some true, some n => some (.cellN n a)
    | some false, _ => some (.cell1 a)
    | _, _ => none

def prepRess : List ResultVar → Option (List PRes)
  | [] => some []
  | r :: l => match prepRes P r with
    | some x => match prepRess l with
      | some y => some (x :: y)
      | none => none
    | none => none

def prepF (f : Func) : Option FD :=
  match f.body with
  | none => none
  | some c => match prepC P c with
    | none => none
    | some b => match prepRess P f.results.toList with
      | none => none
      | some r => if f.name == "runtime.NumGoroutine" || !okPC f.ntmps b then none else some { ntmps := f.ntmps, results := r, body := b }
end
end Go.Proofs.Ytjejgnbdlfkenaa.D
namespace Go.Proofs.Ytjejgnbdlfkenaa.D
noncomputable section

inductive AObj where
  | cells (vs : List AV) (loose ro : Bool) (esz : Nat)
  | map (es : List (AV × AV × Nat)) (clock : Nat)
  | miter (m : Option Nat) (since : Nat) (seen : List Nat) (last : Nat)
  | siter (s : ByteArray) (pos : Nat)
  | loop (state : LoopState) (pend : AExit) (ts : Tr AV) (params : List Nat) (assign body : PC) (defers : Nat)
  | defd

structure St where
  heap : Tr (Option AObj)
  base : Nat → Option AObj
  next : Nat

def St.get (s : St) (b : Nat) : Option AObj :=
  match s.heap.get b with
  | some o => o
  | none => s.base b
def St.put (s : St) (b : Nat) (o : AObj) : St := { s with heap := s.heap.set b (some o) }
def St.drop (s : St) (b : Nat) : St := { s with heap := s.heap.set b none }
def St.new (s : St) (o : AObj) : St := { s with heap := s.heap.set s.next (some o), next := s.next + 1 }

theorem St.get_put (s : St) (b c : Nat) (o : AObj) : (s.put b o).get c = if c = b then some o else s.get c := by
  unfold St.get St.put
  simp only [Tr.get_set]
  by_cases h : c = b <;> simp [h]
theorem St.get_drop (s : St) (b c : Nat) : (s.drop b).get c = if c = b then none else s.get c := by
  unfold St.get St.drop
  simp only [Tr.get_set]
  by_cases h : c = b <;> simp [h]
theorem St.get_new (s : St) (c : Nat) (o : AObj) : (s.new o).get c = if c = s.next then some o else s.get c := by
  unfold St.get St.new
  simp only [Tr.get_set]
  by_cases h : c = s.next <;> simp [h]
@[simp] theorem St.next_put (s : St) (b : Nat) (o : AObj) : (s.put b o).next = s.next := rfl
@[simp] theorem St.next_drop (s : St) (b : Nat) : (s.drop b).next = s.next := rfl
@[simp] theorem St.next_new (s : St) (o : AObj) : (s.new o).next = s.next + 1 := rfl

def jumpCode : AExit → Option Code
  | .normal => none
  | .exit id => some (.exit id)
  | .ret => some .ret

/-- The temporaries are what they stand for. -/
def TR (μ : Place) (ts : Tr AV) (tmps : Array Value) : Prop := ∀ t v, ts.get t = some v → ∃ c, tmps[t]? = some c ∧ conc μ v = some c

theorem TR.mono {μ ν : Place} {ts : Tr AV} {tmps : Array Value} (h : TR μ ts tmps) (l : μ.le ν) : TR ν ts tmps :=
  fun t v e => let ⟨c, h1, h2⟩ := h t v e; ⟨c, h1, conc_mono l v c h2⟩

def entryR (μ : Place) (x : AV × AV × Nat) (y : MapEntry) : Prop := conc μ x.1 = some y.key ∧ conc μ x.2.1 = some y.val ∧ x.2.2 = y.born

def optR (μ : Place) : Option Nat → Option Nat → Prop
  | none, m => m = none
  | some r, m => ∃ p, μ r = some p ∧ m = some p.1

/-- Entries, one beside the other. -/
def entriesR (μ : Place) : List (AV × AV × Nat) → List MapEntry → Prop
  | [], [] => True
  | x :: l, y :: m => entryR μ x y ∧ entriesR μ l m
  | _, _ => False

theorem entriesR_mono {μ ν : Place} (h : μ.le ν) : ∀ {l : List (AV × AV × Nat)} {m : List MapEntry}, entriesR μ l m → entriesR ν l m
  | [], [], _ => trivial
  | _ :: _, _ :: _, e => ⟨⟨conc_mono h _ _ e.1.1, conc_mono h _ _ e.1.2.1, e.1.2.2⟩, entriesR_mono h e.2⟩
  | [], _ :: _, e => e.elim
  | _ :: _, [], e => e.elim

variable (P : Program)

/-- What lies in the model's block. -/
def OR (μ : Place) (w : World) (b e : Nat) : AObj → Prop
  | .cells vs loose ro esz => ∃ (c : Array Value) (elem : TypeId) (fz : Nat × Nat) (xs rest : List Value), w.heap[b]? = some (.cells c elem fz) ∧ concs μ vs = some xs ∧
      c.toList = xs ++ rest ∧ rest.length = e * esz ∧ (loose = false → e = 0) ∧ (ro = false → ∀ i, i < c.size → ¬ (fz.1 ≤ i ∧ i < fz.2))
  | .map es clock => ∃ ces : Array MapEntry, w.heap[b]? = some (.map ces clock) ∧ entriesR μ es ces.toList
  | .miter m since seen last => ∃ m', optR μ m m' ∧ w.heap[b]? = some (.mapIter m' since seen.toArray last)
  | .siter s pos => w.heap[b]? = some (.stringIter s pos)
  | .loop st pend ts params assign body d => ∃ (L : Loop) (p : Nat × Nat), w.heap[b]? = some (.loop L) ∧ L.state = st ∧ L.pending = jumpCode pend ∧ TR μ ts L.tmps ∧
      L.params.toList = params ∧ prepC P L.assign = some assign ∧ prepC P L.body = some body ∧ μ d = some p ∧ L.defers = p.1 ∧
      okNats L.tmps.size params = true ∧ okPC L.tmps.size assign = true ∧ okPC L.tmps.size body = true
  | .defd => w.heap[b]? = some (.deferred (some []))

theorem OR.mono {P : Program} {μ ν : Place} (h : μ.le ν) {w w' : World} {b e : Nat} (hw : w'.heap[b]? = w.heap[b]?) {o : AObj} (ho : OR P μ w b e o) : OR P ν w' b e o := by
  cases o with
  | cells vs l r z =>
    obtain ⟨c, el, fz, xs, rest, h1, h2, h3⟩ := ho
    exact ⟨c, el, fz, xs, rest, hw.trans h1, concs_mono h _ _ h2, h3⟩
  | map es cl => obtain ⟨ces, h1, h2⟩ := ho; exact ⟨ces, hw.trans h1, entriesR_mono h h2⟩
  | miter m s n l =>
    obtain ⟨m', h1, h2⟩ := ho
    refine ⟨m', ?_, hw.trans h2⟩
    cases m with
    | none => exact h1
    | some r => obtain ⟨p, hp, e⟩ := h1; exact ⟨p, h _ _ hp, e⟩
  | siter s p => exact hw.trans ho
  | loop st pe ts ps a bo d =>
    obtain ⟨L, p, h1, h2, h3, h5, h6, h7, h8, h9, h10⟩ := ho
    exact ⟨L, p, hw.trans h1, h2, h3, h5.mono h, h6, h7, h8, h _ _ h9, h10⟩
  | defd => exact hw.trans ho

/-- 'R': numbers from R on may be given ahead to blocks that the abstract machine lays later. -/
structure HR (R : Nat) (μ : Place) (s : St) (w : World) : Prop where
  obj : ∀ b o, s.get b = some o → ∃ p, μ b = some p ∧ OR P μ w p.1 p.2 o
  inj : ∀ b c o o' p q, s.get b = some o → s.get c = some o' → μ b = some p → μ c = some q → p.1 = q.1 → b = c
  lt : ∀ b p, μ b = some p → p.1 < w.heap.size ∧ (b < s.next ∨ R ≤ b)
  dom : ∀ b o, s.get b = some o → b < s.next

/-- Whether draws are counted. -/
def Strict : Bool := true
/-- The tape is the same, and no draw is taken back. -/
structure TapeLe (w w' : World) : Prop where
  eq : w'.tape = w.tape
  dr : Strict = true → w.drawn ≤ w'.drawn
theorem TapeLe.refl (w : World) : TapeLe w w := ⟨rfl, fun _ => Nat.le_refl _⟩
theorem TapeLe.trans {a b c : World} (k : TapeLe b c) (h : TapeLe a b) : TapeLe a c := ⟨k.eq.trans h.eq, fun hs => Nat.le_trans (h.dr hs) (k.dr hs)⟩

/-- What has become of the model's memory between two moments. -/
structure Mv (μ : Place) (s : St) (w : World) (ν : Place) (s' : St) (w' : World) : Prop where
  le : μ.le ν
  os : w'.os = w.os
  output : w'.output = w.output
  tape : TapeLe w w'
  size : w.heap.size ≤ w'.heap.size
  next : s.next ≤ s'.next
  res : ∀ b p, μ b = some p → b < s.next ∨ s'.next ≤ b
  fresh : ∀ b p, ν b = some p → μ b = some p ∨ (s.next ≤ b ∧ b < s'.next ∧ (w.heap.size ≤ p.1 ∨ ∃ c q, c < s.next ∧ μ c = some q ∧ q.1 = p.1))
  frame : ∀ k, k < w.heap.size → (∀ b p, b < s.next → μ b = some p → p.1 ≠ k) → w'.heap[k]? = w.heap[k]?
  ro : ∀ b vs l e p, s.get b = some (.cells vs l true e) → μ b = some p → s'.get b = some (.cells vs l true e) ∧ w'.heap[p.1]? = w.heap[p.1]?

variable {P} {R : Nat}

theorem Mv.refl {μ : Place} {s : St} {w : World} (h : HR P R μ s w) (hR : s.next ≤ R) : Mv μ s w μ s w :=
  ⟨Place.le_refl μ, rfl, rfl, .refl _, Nat.le_refl _, Nat.le_refl _, fun b p hb => (h.lt b p hb).2.imp id (Nat.le_trans hR), fun _ _ h => .inl h, fun _ _ _ => rfl, fun _ _ _ _ _ h _ => ⟨h, rfl⟩⟩

theorem Mv.trans {μ ν ξ : Place} {s s' s'' : St} {w w' w'' : World} (h : Mv μ s w ν s' w') (k : Mv ν s' w' ξ s'' w'') : Mv μ s w ξ s'' w'' := by
  refine ⟨Place.le_trans h.le k.le, k.os.trans h.os, k.output.trans h.output, k.tape.trans h.tape, Nat.le_trans h.size k.size, Nat.le_trans h.next k.next, ?_, ?_, ?_, ?_⟩
  · intro b p hb
    rcases h.res b p hb with h1 | h1
    · exact .inl h1
    · rcases k.res b p (h.le _ _ hb) with h2 | h2
      · omega
      · exact .inr h2
  · intro b p hb
    rcases k.fresh b p hb with hq | ⟨h1, h2, hq | ⟨c, q, hc1, hc, e⟩⟩
    · rcases h.fresh b p hq with h3 | ⟨h3, h4, h5⟩
      · exact .inl h3
      · exact .inr ⟨h3, Nat.lt_of_lt_of_le h4 k.next, h5⟩
    · exact .inr ⟨Nat.le_trans h.next h1, h2, .inl (Nat.le_trans h.size hq)⟩
    · refine .inr ⟨Nat.le_trans h.next h1, h2, ?_⟩
      rcases h.fresh c q hc with h3 | ⟨h3, h4, h5 | ⟨d, q', hd1, hd, e'⟩⟩
      · rcases h.res c q h3 with h4 | h4
        · exact .inr ⟨c, q, h4, h3, e⟩
        · omega
      · exact .inl (by omega)
      · exact .inr ⟨d, q', hd1, hd, e'.trans e⟩
  · intro i hi hn
    rw [k.frame i (Nat.lt_of_lt_of_le hi h.size) ?_, h.frame i hi hn]
    intro b p hb1 hb e
    rcases h.fresh b p hb with h3 | ⟨h3, h4, h5 | ⟨d, q', hd1, hd, e'⟩⟩
    · rcases h.res b p h3 with h4 | h4
      · exact hn _ _ h4 h3 e
      · omega
    · omega
    · exact hn _ _ hd1 hd (e'.trans e)
  · intro b vs l e p hs hp
    obtain ⟨h1, h2⟩ := h.ro b vs l e p hs hp
    obtain ⟨k1, k2⟩ := k.ro b vs l e p h1 (h.le _ _ hp)
    exact ⟨k1, k2.trans h2⟩

theorem HR.heap_eq {μ : Place} {s : St} {w w' : World} (h : HR P R μ s w) (e : w'.heap = w.heap) : HR P R μ s w' :=
  ⟨fun b o hb => let ⟨p, hp, ho⟩ := h.obj b o hb; ⟨p, hp, ho.mono (Place.le_refl _) (by rw [e])⟩, h.inj, fun b p hp => by rw [e]; exact h.lt b p hp, h.dom⟩

/-- A new block. -/
def Place.add (μ : Place) (b : Nat) (p : Nat × Nat) : Place := fun c => if c = b then some p else μ c

theorem HR.fresh_none {μ : Place} {s : St} {w : World} (h : HR P R μ s w) (hR : s.next + 1 ≤ R) : μ s.next = none := by
  cases e : μ s.next with
  | none => rfl
  | some p => have := (h.lt _ _ e).2; omega

theorem HR.get_lt {μ : Place} {s : St} {w : World} (h : HR P R μ s w) {b : Nat} {o : AObj} (hb : s.get b = some o) : b < s.next := h.dom b o hb

theorem HR.le_add {μ : Place} {s : St} {w : World} (h : HR P R μ s w) (hR : s.next + 1 ≤ R) (p : Nat × Nat) : μ.le (μ.add s.next p) := by
  intro b q hb
  unfold Place.add
  rw [if_neg]
  · exact hb
  · intro e; subst e; rw [h.fresh_none hR] at hb; cases hb

theorem World.push_old (w : World) (O : Obj) (k : Nat) (h : k < w.heap.size) (d : Nat) : ({ w with heap := w.heap.push O, drawn := d } : World).heap[k]? = w.heap[k]? := by
  show (w.heap.push O)[k]? = _
  rw [Array.getElem?_push, if_neg (by omega)]
theorem World.push_new (w : World) (O : Obj) (d : Nat) : ({ w with heap := w.heap.push O, drawn := d } : World).heap[w.heap.size]? = some O := by
  show (w.heap.push O)[w.heap.size]? = _
  simp

/-- A block that lies is taken up under the next number: one that is laid anew, or one to which that number was given ahead. -/
theorem HR.take {μ ν : Place} {s : St} {w w' : World} (h : HR P R μ s w) (hle : μ.le ν) (hν : ∀ b, b ≠ s.next → ν b = μ b) {q : Nat × Nat} (hq : ν s.next = some q) (hlt : q.1 < w'.heap.size) (hnew : ∀ b o p, s.get b = some o → μ b = some p → p.1 ≠ q.1)
    (hsz : w.heap.size ≤ w'.heap.size) (hold : ∀ b o p, s.get b = some o → μ b = some p → w'.heap[p.1]? = w.heap[p.1]?) (o : AObj) (ho : OR P ν w' q.1 q.2 o) : HR P R ν (s.new o) w' := by
  refine ⟨?_, ?_, ?_, ?_⟩
  · intro b x hb
    rw [St.get_new] at hb
    by_cases e' : b = s.next
    · rw [if_pos e'] at hb; cases hb
      exact ⟨q, by rw [e']; exact hq, ho⟩
    · rw [if_neg e'] at hb
      obtain ⟨p, hp, hx⟩ := h.obj b x hb
      exact ⟨p, hle _ _ hp, hx.mono hle (hold b x p hb hp)⟩
  · intro b c x y p r hb hc hp hr epq
    rw [St.get_new] at hb hc
    have old : ∀ b x p, (if b = s.next then some o else s.get b) = some x → ν b = some p → b ≠ s.next → s.get b = some x ∧ μ b = some p := by
      intro b x p h1 h2 h3
      rw [if_neg h3] at h1
      rw [hν b h3] at h2
      exact ⟨h1, h2⟩
    by_cases eb : b = s.next <;> by_cases ec : c = s.next
    · rw [eb, ec]
    · obtain ⟨hy, hr'⟩ := old c y r hc hr ec
      rw [eb, hq] at hp; cases hp
      exact absurd epq.symm (hnew c _ _ hy hr')
    · obtain ⟨hy, hp'⟩ := old b x p hb hp eb
      rw [ec, hq] at hr; cases hr
      exact absurd epq (hnew b _ _ hy hp')
    · obtain ⟨hx, hp'⟩ := old b x p hb hp eb
      obtain ⟨hy, hr'⟩ := old c y r hc hr ec
      exact h.inj b c _ _ p r hx hy hp' hr' epq
  · intro b p hp
    by_cases eb : b = s.next
    · rw [eb, hq] at hp; cases hp
      exact ⟨hlt, .inl (by simp [eb])⟩
    · rw [hν b eb] at hp
      have := h.lt _ _ hp
      refine ⟨by omega, ?_⟩
      simp; omega
  · intro b x hb
    rw [St.get_new] at hb
    by_cases eb : b = s.next
    · simp [eb]
    · rw [if_neg eb] at hb
      have := h.dom b x hb
      simp; omega

/-- A block is laid. -/
theorem HR.new {μ : Place} {s : St} {w : World} (h : HR P R μ s w) (hR : s.next + 1 ≤ R) (o : AObj) (O : Obj) (e d : Nat)
    (ho : OR P (μ.add s.next (w.heap.size, e)) { w with heap := w.heap.push O, drawn := d } w.heap.size e o) (hd : w.drawn ≤ d := by first | exact Nat.le_refl _ | exact Nat.le_succ _ | exact Nat.le_add_right _ _) :
    HR P R (μ.add s.next (w.heap.size, e)) (s.new o) { w with heap := w.heap.push O, drawn := d } ∧
    Mv μ s w (μ.add s.next (w.heap.size, e)) (s.new o) { w with heap := w.heap.push O, drawn := d } := by
  have hle := h.le_add hR (w.heap.size, e)
  refine ⟨h.take hle (fun b hb => by simp [Place.add, hb]) (q := (w.heap.size, e)) (by simp [Place.add]) (by simp) ?_ (by simp) ?_ o ho, ⟨hle, rfl, rfl, ⟨rfl, fun _ => hd⟩, by simp, by simp, ?_, ?_, ?_, ?_⟩⟩
  · intro b x p _ hp e'
    have := (h.lt _ _ hp).1
    simp at e'
    omega
  · intro b x p _ hp
    exact World.push_old w O p.1 (h.lt _ _ hp).1 d
  · intro b p hp
    have := (h.lt _ _ hp).2
    simp
    omega
  · intro b p hp
    simp only [Place.add] at hp
    by_cases eb : b = s.next
    · rw [if_pos eb] at hp; cases hp
      exact .inr ⟨by omega, by simp [eb], .inl (Nat.le_refl _)⟩
    · rw [if_neg eb] at hp; exact .inl hp
  · intro k hk _
    exact World.push_old w O k hk d
  · intro b vs l z p hb hp
    refine ⟨?_, World.push_old w O p.1 (h.lt _ _ hp).1 d⟩
    rw [St.get_new, if_neg (by have := h.get_lt hb; omega)]
    exact hb

/-- A block is turned. -/
theorem HR.turn {μ : Place} {s : St} {w w' : World} (h : HR P R μ s w) (hR : s.next ≤ R) {b : Nat} {o o' : AObj} {p : Nat × Nat} (hb : s.get b = some o) (hp : μ b = some p)
    (hro : ∀ vs l e, o ≠ .cells vs l true e) (ho : OR P μ w' p.1 p.2 o')
    (hos : w'.os = w.os) (hout : w'.output = w.output) (htape : TapeLe w w') (hsize : w'.heap.size = w.heap.size) (hk : ∀ k, k ≠ p.1 → w'.heap[k]? = w.heap[k]?) :
    HR P R μ (s.put b o') w' ∧ Mv μ s w μ (s.put b o') w' := by
  refine ⟨⟨?_, ?_, ?_, ?_⟩, ⟨Place.le_refl μ, hos, hout, htape, by omega, by simp, fun c q hq => (h.lt c q hq).2.imp id (Nat.le_trans hR), fun _ q hq => .inl hq, ?_, ?_⟩⟩
  · intro c x hc
    rw [St.get_put] at hc
    by_cases e : c = b
    · rw [if_pos e] at hc; cases hc; subst e; exact ⟨p, hp, ho⟩
    · rw [if_neg e] at hc
      obtain ⟨q, hq, hx⟩ := h.obj c x hc
      refine ⟨q, hq, hx.mono (Place.le_refl _) (hk q.1 ?_)⟩
      intro e'
      exact e (h.inj c b _ _ q p hc hb hq hp e')
  · intro c d x y q r hc hd hq hr e
    rw [St.get_put] at hc hd
    have old : ∀ c x, (if c = b then some o' else s.get c) = some x → ∃ y, s.get c = some y := by
      intro c x hx
      by_cases e : c = b
      · subst e; exact ⟨o, hb⟩
      · rw [if_neg e] at hx; exact ⟨x, hx⟩
    obtain ⟨x', hx'⟩ := old c x hc
    obtain ⟨y', hy'⟩ := old d y hd
    exact h.inj c d _ _ q r hx' hy' hq hr e
  · intro c q hq
    have := h.lt c q hq
    simp; omega
  · intro c x hc
    rw [St.get_put] at hc
    by_cases e : c = b
    · subst e; exact h.dom c o hb
    · rw [if_neg e] at hc; exact h.dom c x hc
  · intro k _ hn
    exact hk k (fun e => hn b p (h.dom b o hb) hp e.symm)
  · intro c vs l e q hc hq
    have hne : c ≠ b := by
      intro e'; subst e'; rw [hb] at hc; cases hc; exact hro _ _ _ rfl
    refine ⟨by rw [St.get_put, if_neg hne]; exact hc, hk q.1 ?_⟩
    intro e'
    exact hne (h.inj c b _ _ q p hc hb hq hp e')

/-- Nothing may be asked of a block any more. -/
theorem HR.drop {μ : Place} {s : St} {w : World} (h : HR P R μ s w) (hR : s.next ≤ R) {b : Nat} {o : AObj} (hb : s.get b = some o) (hro : ∀ vs l e, o ≠ .cells vs l true e) :
    HR P R μ (s.drop b) w ∧ Mv μ s w μ (s.drop b) w := by
  have old : ∀ c x, (s.drop b).get c = some x → s.get c = some x ∧ c ≠ b := by
    intro c x hc
    rw [St.get_drop] at hc
    by_cases e : c = b
    · rw [if_pos e] at hc; cases hc
    · rw [if_neg e] at hc; exact ⟨hc, e⟩
  refine ⟨⟨fun c x hc => h.obj c x (old c x hc).1, fun c d x y q r hc hd => h.inj c d x y q r (old c x hc).1 (old d y hd).1, h.lt, fun c x hc => h.dom c x (old c x hc).1⟩,
    ⟨Place.le_refl μ, rfl, rfl, .refl _, Nat.le_refl _, Nat.le_refl _, fun c q hq => (h.lt c q hq).2.imp id (Nat.le_trans hR), fun _ q hq => .inl hq, fun _ _ _ => rfl, ?_⟩⟩
  intro c vs l e q hc hq
  refine ⟨?_, rfl⟩
  rw [St.get_drop, if_neg]
  · exact hc
  · intro e'; subst e'; rw [hb] at hc; cases hc; exact hro _ _ _ rfl

/-- A block goes on under another number: nothing may be asked of the elder one any more. -/
theorem HR.alias {μ : Place} {s : St} {w w' : World} (h : HR P R μ s w) (hR : s.next + 1 ≤ R) {b : Nat} {o o' : AObj} {p : Nat × Nat} {e : Nat} (hb : s.get b = some o) (hp : μ b = some p)
    (hro : ∀ vs l e, o ≠ .cells vs l true e) (ho : OR P (μ.add s.next (p.1, e)) w' p.1 e o')
    (hos : w'.os = w.os) (hout : w'.output = w.output) (htape : TapeLe w w') (hsize : w'.heap.size = w.heap.size) (hk : ∀ k, k ≠ p.1 → w'.heap[k]? = w.heap[k]?) :
    HR P R (μ.add s.next (p.1, e)) ((s.drop b).new o') w' ∧ Mv μ s w (μ.add s.next (p.1, e)) ((s.drop b).new o') w' := by
  have hle := h.le_add hR (p.1, e)
  obtain ⟨hd, _⟩ := h.drop (by omega) hb hro
  have other : ∀ c x q, (s.drop b).get c = some x → μ c = some q → q.1 ≠ p.1 := by
    intro c x q hc hq e'
    rw [St.get_drop] at hc
    by_cases ec : c = b
    · rw [if_pos ec] at hc; cases hc
    · rw [if_neg ec] at hc
      exact ec (h.inj c b _ _ q p hc hb hq hp e')
  refine ⟨hd.take hle (fun c hc => by simp only [Place.add]; rw [if_neg (show c ≠ s.next from hc)]) (q := (p.1, e)) (by simp [Place.add]) (by rw [hsize]; exact (h.lt _ _ hp).1) other (by omega) (fun c x q hc hq => hk q.1 (other c x q hc hq)) o' ho,
    ⟨hle, hos, hout, htape, by omega, by simp, ?_, ?_, ?_, ?_⟩⟩
  · intro c q hq
    have := (h.lt _ _ hq).2
    simp
    omega
  · intro c q hq
    simp only [Place.add] at hq
    by_cases ec : c = s.next
    · rw [if_pos ec] at hq; cases hq
      exact .inr ⟨by omega, by simp [ec], .inr ⟨b, p, h.dom b o hb, hp, rfl⟩⟩
    · rw [if_neg ec] at hq; exact .inl hq
  · intro k _ hn
    exact hk k (fun e => hn b p (h.dom b o hb) hp e.symm)
  · intro c vs l z q hc hq
    have hne : c ≠ b := by
      intro e'; subst e'; rw [hb] at hc; cases hc; exact hro _ _ _ rfl
    have hcn := h.get_lt hc
    refine ⟨?_, hk q.1 (fun e' => hne (h.inj c b _ _ q p hc hb hq hp e'))⟩
    rw [St.get_new, if_neg (by simp; omega), St.get_drop, if_neg hne]
    exact hc

/-- A cell reads as what it stands for. -/
theorem HR.cell {μ : Place} {s : St} {w : World} (h : HR P R μ s w) {b : Nat} {vs : List AV} {l r : Bool} {z : Nat} (hb : s.get b = some (.cells vs l r z)) {p : Nat × Nat} (hp : μ b = some p)
    {i : Nat} {v : AV} (hv : vs[i]? = some v) : ∃ c, w.cell? ⟨p.1, i, none⟩ = some c ∧ conc μ v = some c := by
  obtain ⟨q, hq, c, el, fz, xs, rest, h1, h2, h3, _⟩ := h.obj _ _ hb
  rw [hp] at hq; cases hq
  obtain ⟨x, hx, hc⟩ := concs_get h2 i v hv
  refine ⟨x, ?_, hc⟩
  have hlt : i < xs.length := (List.getElem?_eq_some_iff.1 hx).1
  simp only [World.cell?, h1, Option.isSome_none, Bool.false_eq_true, if_false]
  rw [← Array.getElem?_toList, h3, List.getElem?_append_left hlt, hx]
end
end Go.Proofs.Ytjejgnbdlfkenaa.D
namespace Go.Proofs.Ytjejgnbdlfkenaa.D
noncomputable section

abbrev Ev := X → Option AV

def evO (ev : Ev) : Option X → Option (Option AV)
  | none => some none
  | some x => match ev x with
    | some v => some (some v)
    | none => none

def evs (ev : Ev) : List X → Option (List AV)
  | [] => some []
  | x :: r => match ev x with
    | some v => match evs ev r with
      | some l => some (v :: l)
      | none => none
    | none => none

/-- Some places of a list are other ones. -/
def splice (l : List AV) (off : Nat) (vs : List AV) : List AV := l.take off ++ vs ++ l.drop (off + vs.length)

def fillA (ev : Ev) (z : List AV) : List (Nat × Nat × X) → Option (List AV)
  | [] => some z
  | (off, size, x) :: r => match ev x with
    | some v => if v.cells.length = size ∧ off + size ≤ z.length then fillA ev (splice z off v.cells) r else none
    | none => none

/-- The cells of a row from a place on. -/
def loadA (s : St) (b o n : Nat) : Option (List AV) :=
  match s.get b with
  | some (.cells vs _ _ _) => if o + n ≤ vs.length then some ((vs.drop o).take n) else none
  | _ => none

def allCell : List AV → Bool
  | [] => true
  | v :: r => v.cell && allCell r

def storeA (s : St) (b o : Nat) (l : List AV) : Option St :=
  match s.get b with
  | some (.cells vs lo false z) => if o + l.length ≤ vs.length ∧ allCell l = true then some (s.put b (.cells (splice vs o l) lo false z)) else none
  | _ => none

/-- Two cells of a kind: bools 0, numbers 1, texts 2. -/
def leafEq : Nat → AV → AV → Option Bool
  | 0, .bool a, .bool b => some (a == b)
  | 1, .int k a, .int k' b => if k = k' then some (a == b) else none
  | 2, .str a, .str b => some (a == b)
  | _, _, _ => none

def cellsEq : List Nat → List AV → List AV → Option Bool
  | [], [], [] => some true
  | k :: ks, x :: l, y :: m => match leafEq k x y with
    | some true => cellsEq ks l m
    | some false => if l.length = ks.length ∧ m.length = ks.length then some false else none
    | none => none
  | _, _, _ => none

/-- Is a slice that was left unread none? -/
def rawNil : Value → Option Bool
  | .slice p _ _ => some p.isNone
  | _ => none
/-- Is a value of a kind nil? -/
def nilOf : EqK → AV → Option Bool
  | .ptr, .nilPtr => some true
  | .ptr, .ptr _ _ => some false
  | .slice, .nilSlice => some true
  | .slice, .slice .. => some false
  | .slice, .tail .. => some false
  | .slice, .raw v => rawNil v
  | .map, .nilMap => some true
  | .map, .map _ => some false
  | .func, .nilFn => some true
  | .func, .fn .. => some false
  | .iface, .nilIface => some true
  | .iface, .iface .. => some false
  | _, _ => none

def boolEq : AV → AV → Option Bool
  | .bool a, .bool b => some (a == b)
  | _, _ => none

def aggEq (ks : List Nat) : AV → AV → Option Bool
  | .agg l, .agg m => cellsEq ks l m
  | _, _ => none

def nilEq (k : EqK) (a b : AV) : Option Bool :=
  match nilOf k a with
  | none => none
  | some x => match nilOf k b with
    | none => none
    | some y => if x then some y else if y then some x else none

def eqA (k : EqK) (a b : AV) : Option Bool :=
  match k with
  | .no => none
  | .leaf => boolEq a b
  | .cells ks => aggEq ks a b
  | .ptr => nilEq .ptr a b
  | .slice => nilEq .slice a b
  | .map => nilEq .map a b
  | .func => nilEq .func a b
  | .iface => nilEq .iface a b

def intBin (op : BinOp) (k : IntKind) (a b : Int) : Option AV :=
  match op with
  | .add => some (.int k (k.wrap (a + b)))
  | .sub => some (.int k (k.wrap (a - b)))
  | .mul => some (.int k (k.wrap (a * b)))
  | .quo => if b = 0 then none else some (.int k (k.wrap (a.tdiv b)))
  | .rem => if b = 0 then none else some (.int k (a.tmod b))
  | .and => some (.int k (k.wrap ((BitVec.ofInt k.bits a &&& BitVec.ofInt k.bits b).toNat)))
  | .or => some (.int k (k.wrap ((BitVec.ofInt k.bits a ||| BitVec.ofInt k.bits b).toNat)))
  | .xor => some (.int k (k.wrap ((BitVec.ofInt k.bits a ^^^ BitVec.ofInt k.bits b).toNat)))
  | .andNot => some (.int k (k.wrap ((BitVec.ofInt k.bits a &&& ~~~(BitVec.ofInt k.bits b)).toNat)))
  | .eql => some (.bool (a == b))
  | .neq => some (.bool (a != b))
  | .lss => some (.bool (decide (a < b)))
  | .leq => some (.bool (decide (a ≤ b)))
  | .gtr => some (.bool (decide (a > b)))
  | .geq => some (.bool (decide (a ≥ b)))
  | _ => none

def strBin (op : BinOp) (a b : ByteArray) : Option AV :=
  match op with
  | .add => if ((a.size + b.size : Nat) : Int) > IntKind.i64.max then none else some (.str (a ++ b))
  | .eql => some (.bool (a.toList == b.toList))
  | .neq => some (.bool !(a.toList == b.toList))
  | .lss => some (.bool (Op.bytesLess a.toList b.toList))
  | _ => none

def binA (op : BinOp) (e : EqK) (x y : AV) : Option AV :=
  match op, x, y with
  | .shl, .int k a, .int _ b => if b < 0 then none else some (.int k (k.wrap (a * 2 ^ (min b.toNat k.bits))))
  | .shr, .int k a, .int _ b => if b < 0 then none else some (.int k (a.fdiv (2 ^ (min b.toNat k.bits))))
  | _, .int k a, .int k' b => if k = k' then intBin op k a b else none
  | _, .str a, .str b => strBin op a b
  | .eql, x, y => match eqA e x y with
    | some b => some (.bool b)
    | none => none
  | .neq, x, y => match eqA e x y with
    | some b => some (.bool (!b))
    | none => none
  | _, _, _ => none

def unA (op : UnOp) (x : AV) : Option AV :=
  match op, x with
  | .neg, .int k n => some (.int k (k.wrap (0 - n)))
  | .xor, .int k n => some (.int k (k.wrap ((BitVec.ofInt k.bits (if k.signed then -1 else k.max) ^^^ BitVec.ofInt k.bits n).toNat)))
  | .not, .bool b => some (.bool !b)
  | _, _ => none

/-- A bound of a slice expression: from 0 to another one. -/
def boundA (v : AV) (y : Nat) : Option Nat :=
  match v with
  | .int _ n => if 0 ≤ n ∧ n ≤ y then some n.toNat else none
  | _ => none

/-- The three bounds. -/
def boundsA (len cap : Nat) (lo hi mx : Option AV) : Option (Nat × Nat × Nat) :=
  match (match mx with | some v => boundA v cap | none => some cap) with
  | none => none
  | some m => match (match hi, mx with
      | some v, _ => boundA v m
      | none, none => if len ≤ m then some len else none
      | none, some _ => none) with
    | none => none
    | some h => match (match lo with | some v => boundA v h | none => some 0) with
      | none => none
      | some l => some (l, h, m)

def isZero : Option AV → Bool
  | none => true
  | some (.int _ n) => n == 0
  | _ => false

def sliceA (esz : Nat) (x : AV) (lo hi mx : Option AV) : Option AV :=
  match x with
  | .nilSlice => match boundsA 0 0 lo hi mx with
    | some _ => some .nilSlice
    | none => none
  | .tail b o adv => if mx.isNone && isZero lo && isZero hi then some (.tail b o adv) else none
  | .slice b o len cap loose => match boundsA len cap lo hi mx with
    | none => none
    | some (l, h, m) =>
      if loose && mx.isNone then
        if m = l then some (.tail b o (l * esz)) else some (.slice b (o + l * esz) (h - l) (m - l) true)
      else some (.slice b (if m = l then o else o + l * esz) (h - l) (m - l) false)
  | .raw (.slice a 0 0) => match boundsA 0 0 lo hi mx with
    | some _ => some (.raw (.slice a 0 0))
    | none => none
  | _ => none

def indexA (v : AV) (len : Nat) : Option Nat :=
  match v with
  | .int _ n => if 0 ≤ n ∧ n < len then some n.toNat else none
  | _ => none

def partA (n : Option Nat) (cs : List AV) (off : Nat) : Option AV :=
  match n with
  | some k => some (.agg ((cs.drop off).take k))
  | none => cs[off]?

/-- Where a key is among entries. -/
def findA (k : IntKind) (a : Int) : List (AV × AV × Nat) → Nat → Option (Option (Nat × AV))
  | [], _ => some none
  | (.int k' b, v, _) :: r, i => if k = k' then (if a == b then some (some (i, v)) else findA k a r (i + 1)) else none
  | _ :: _, _ => none

def bytesA : List AV → Option (List UInt8)
  | [] => some []
  | .int .u8 n :: r => match bytesA r with
    | some l => some (UInt8.ofNat n.toNat :: l)
    | none => none
  | _ :: _ => none

def foldMM (mx : Bool) : AV → List AV → Option AV
  | v, [] => some v
  | .int k x, .int _ y :: r => foldMM mx (.int k (if mx then (if y > x then y else x) else (if y < x then y else x))) r
  | _, _ => none

/-- The cells that append, or copy, takes from its second operand. -/
def srcA (s : St) (esz : Nat) : AV → Option (Nat × List AV)
  | .nilSlice => some (0, [])
  | .tail .. => some (0, [])
  | .raw (.slice _ 0 _) => some (0, [])
  | .slice b o len _ _ => match loadA s b o (len * esz) with
    | some l => some (len, l)
    | none => none
  | .str x => if esz = 1 then some (x.size, x.data.toList.map fun c => .int .u8 c.toNat) else none
  | _ => none

def newA (s : St) (o : AObj) (v : AV) : Option (AV × St) := some (v, s.new o)

def appendA (esz ebytes : Nat) (s : St) (x : AV) (n : Nat) (new : List AV) : Option (AV × St) :=
  match x with
  | .nilSlice => if n = 0 then some (.nilSlice, s) else if n * ebytes ≤ 2 ^ 46 then newA s (.cells new true false esz) (.slice s.next 0 n n true) else none
  | .slice b o len cap loose =>
    if len + n ≤ cap then
      if n = 0 then some (.slice b o len cap loose, s) else
      match storeA s b (o + len * esz) new with
      | some s' => some (.slice b o (len + n) cap loose, s')
      | none => none
    else if (len + n) * ebytes ≤ 2 ^ 46 then
      match loadA s b o (len * esz) with
      | none => none
      | some old =>
        if loose then
          if o = 0 then
            match s.get b with
            | some (.cells vs true false z) => if z = esz ∧ vs.length = cap * esz ∧ allCell new = true then
                some (.slice s.next 0 (len + n) (len + n) true, (s.drop b).new (.cells (old ++ new) true false esz)) else none
            | _ => none
          else none
        else newA s (.cells (old ++ new) true false esz) (.slice s.next 0 (len + n) (len + n) true)
    else none
  | _ => none

def undefA : AV := .tup []

def xop (p : POp) (ev : Ev) (s : St) : Option (AV × St) :=
  let pure' (v : Option AV) : Option (AV × St) := match v with
    | some v => some (v, s)
    | none => none
  match p with
  | .move x => pure' (ev x)
  | .pick c a b => match ev c with
    | some (.bool true) => pure' (ev a)
    | some (.bool false) => pure' (ev b)
    | _ => none
  | .alloc z => newA s (.cells z false false 0) (.ptr s.next 0)
  | .box x => match ev x with
    | some v => newA s (.cells v.cells false false 0) (.ptr s.next 0)
    | none => none
  | .build z parts => match fillA ev z parts with
    | some l => some (.agg l, s)
    | none => none
  | .buildSlice z n parts _ => match fillA ev z parts with
    | some l => newA s (.cells l false false 0) (.slice s.next 0 n n false)
    | none => none
  | .load1 a => match ev a with
    | some (.ptr b o) => match s.get b with
      | some (.cells vs _ _ _) => pure' vs[o]?
      | _ => none
    | _ => none
  | .loadN n a => match ev a with
    | some (.ptr b o) => match loadA s b o n with
      | some l => some (.agg l, s)
      | none => none
    | _ => none
  | .store n a v => match ev a, ev v with
    | some (.ptr b o), some v => if v.cells.length = n then match storeA s b o v.cells with
        | some s' => some (undefA, s')
        | none => none
      else none
    | _, _ => none
  | .nilCheck x => match ev x with
    | some (.ptr b o) => some (.ptr b o, s)
    | some (.fn (.func f) a c) => some (.fn (.func f) a c, s)
    | some (.yld r) => some (.yld r, s)
    | _ => none
  | .bin op e x y => match ev x, ev y with
    | some a, some b => pure' (binA op e a b)
    | _, _ => none
  | .un op x => match ev x with
    | some a => pure' (unA op a)
    | none => none
  | .convInt k x => match ev x with
    | some (.int _ n) => some (.int k (k.wrap n), s)
    | _ => none
  | .convSame x => match ev x with
    | some (.str v) => some (.str v, s)
    | _ => none
  | .convStr _ x => match ev x with
    | some (.str v) => newA s (.cells (v.data.toList.map fun c => .int .u8 c.toNat) true false 1) (.slice s.next 0 v.size v.size true)
    | _ => none
  | .convBytes x => match ev x with
    | some .nilSlice => some (.str .empty, s)
    | some (.tail ..) => some (.str .empty, s)
    | some (.raw (.slice _ 0 _)) => some (.str .empty, s)
    | some (.slice _ _ 0 _ _) => some (.str .empty, s)
    | some (.slice b o len _ _) => match loadA s b o len with
      | some l => match bytesA l with
        | some bs => some (.str ⟨bs.toArray⟩, s)
        | none => none
      | none => none
    | _ => none
  | .mkIface t x => match ev x with
    | some v => some (.iface t v, s)
    | none => none
  | .mkFunc f a c => match evs ev a, evs ev c with
    | some a, some c => some (.fn f a c, s)
    | _, _ => none
  | .mkMap => newA s (.map [] 0) (.map s.next)
  | .mkSlice _ eb z l c => match ev l, ev c with
    | some (.int _ l), some (.int _ c) => if 0 ≤ l ∧ l ≤ c ∧ c < 2 ^ 40 ∧ (eb : Int) * c ≤ 2 ^ 46 then
        newA s (.cells (List.replicate c.toNat z).flatten false false 0) (.slice s.next 0 l.toNat c.toNat false) else none
    | _, _ => none
  | .sliceSl e x lo hi mx => match ev x, evO ev lo, evO ev hi, evO ev mx with
    | some x, some lo, some hi, some mx => pure' (sliceA e x lo hi mx)
    | _, _, _, _ => none
  | .sliceStr x lo hi => match ev x, evO ev lo, evO ev hi with
    | some (.str v), some lo, some hi => match boundsA v.size v.size lo hi none with
      | some (l, h, _) => some (.str (v.extract l h), s)
      | none => none
    | _, _, _ => none
  | .sliceArr n e x lo hi mx => match ev x, evO ev lo, evO ev hi, evO ev mx with
    | some (.ptr b o), some lo, some hi, some mx => match boundsA n n lo hi mx with
      | some (l, h, m) => some (.slice b (if m = l then o else o + l * e) (h - l) (m - l) false, s)
      | none => none
    | _, _, _, _ => none
  | .fieldAddr off x => match ev x with
    | some (.ptr b o) => some (.ptr b (o + off), s)
    | _ => none
  | .field off n x => match ev x with
    | some (.agg l) => pure' (partA n l off)
    | _ => none
  | .idxArr len e x i => match ev x, ev i with
    | some (.ptr b o), some i => match indexA i len with
      | some k => some (.ptr b (o + k * e), s)
      | none => none
    | _, _ => none
  | .idxSl e x i => match ev x, ev i with
    | some (.slice b o len _ _), some i => match indexA i len with
      | some k => some (.ptr b (o + k * e), s)
      | none => none
    | _, _ => none
  | .idxAgg len e g x i => match ev x, ev i with
    | some (.agg l), some i => match indexA i len with
      | some k => pure' (partA (if g then some e else none) l (k * e))
      | none => none
    | _, _ => none
  | .idxStr x i => match ev x, ev i with
    | some (.str v), some i => match indexA i v.size with
      | some k => match v[k]? with
        | some c => some (.int .u8 c.toNat, s)
        | none => none
      | none => none
    | _, _ => none
  | .lookup z m k ok => match ev m, ev k with
    | some .nilMap, some (.int _ _) => some (if ok then .tup [z, .bool false] else z, s)
    | some (.map r), some (.int kk a) => match s.get r with
      | some (.map es _) => match findA kk a es 0 with
        | some (some (_, v)) => some (if ok then .tup [v, .bool true] else v, s)
        | some none => some (if ok then .tup [z, .bool false] else z, s)
        | none => none
      | _ => none
    | _, _ => none
  | .mapUpd m k v => match ev m, ev k, ev v with
    | some (.map r), some (.int kk a), some v => match s.get r with
      | some (.map es cl) => match findA kk a es 0 with
        | some (some (i, _)) => some (undefA, s.put r (.map (es.modify i fun e => (.int kk a, v, e.2.2)) cl))
        | some none => some (undefA, s.put r (.map (es ++ [(.int kk a, v, cl)]) (cl + 1)))
        | none => none
      | _ => none
    | _, _, _ => none
  | .extract x i => match ev x with
    | some (.tup l) => pure' l[i]?
    | _ => none
  | .append esz eb _ x y => match ev x, ev y with
    | some x, some y => match srcA s esz y with
      | some (n, l) => if l.length = n * esz then appendA esz eb s x n l else none
      | none => none
    | _, _ => none
  | .appendN esz eb z x y => match ev x, ev y with
    | some x, some (.int _ k) => if 0 ≤ k ∧ k < 2 ^ 40 ∧ k.toNat * eb ≤ 2 ^ 46 then appendA esz eb s x k.toNat (List.replicate k.toNat z).flatten else none
    | _, _ => none
  | .copy esz d x => match ev d, ev x with
    | some d, some x => match srcA s esz x with
      | none => none
      | some (n, l) => match d with
        | .nilSlice => some (.int .i64 0, s)
        | .tail .. => some (.int .i64 0, s)
        | .slice b o len _ _ => if min n len = 0 then some (.int .i64 0, s) else match storeA s b o (l.take (min n len * esz)) with
          | some s' => some (.int .i64 (min n len : Nat), s')
          | none => none
        | _ => none
    | _, _ => none
  | .len 0 x => match ev x with
    | some (.str v) => some (.int .i64 v.size, s)
    | _ => none
  | .len 1 x => match ev x with
    | some .nilSlice => some (.int .i64 0, s)
    | some (.tail ..) => some (.int .i64 0, s)
    | some (.slice _ _ n _ _) => some (.int .i64 n, s)
    | some (.raw (.slice _ n _)) => some (.int .i64 n, s)
    | _ => none
  | .len _ x => match ev x with
    | some .nilMap => some (.int .i64 0, s)
    | some (.map r) => match s.get r with
      | some (.map es _) => some (.int .i64 es.length, s)
      | _ => none
    | _ => none
  | .lenArr n => some (.int .i64 n, s)
  | .cap x => match ev x with
    | some .nilSlice => some (.int .i64 0, s)
    | some (.slice _ _ _ c false) => some (.int .i64 c, s)
    | _ => none
  | .minmax mx l => match evs ev l with
    | some (v :: r) => pure' (foldMM mx v r)
    | _ => none
  | .clearMap x => match ev x with
    | some .nilMap => some (undefA, s)
    | some (.map r) => match s.get r with
      | some (.map _ cl) => some (undefA, s.put r (.map [] cl))
      | _ => none
    | _ => none
  | .clear z x => match ev x with
    | some .nilSlice => some (undefA, s)
    | some (.tail ..) => some (undefA, s)
    | some (.slice b o n _ _) => if n = 0 then some (undefA, s) else match storeA s b o (List.replicate n z).flatten with
      | some s' => some (undefA, s')
      | none => none
    | _ => none
  | .delete m k => match ev m, ev k with
    | some .nilMap, some (.int _ _) => some (undefA, s)
    | some (.map r), some (.int kk a) => match s.get r with
      | some (.map es cl) => match findA kk a es 0 with
        | some (some (i, _)) => some (undefA, s.put r (.map (es.eraseIdx i) cl))
        | some none => some (undefA, s)
        | none => none
      | _ => none
    | _, _ => none
  | .call .. => none
  | .range x => match ev x with
    | some .nilMap => newA s (.miter none 0 [] 0) (.ptr s.next 0)
    | some (.map r) => match s.get r with
      | some (.map _ clock) => newA s (.miter (some r) clock [] clock) (.ptr s.next 0)
      | _ => none
    | _ => none
  | .next x => match ev x with
    | some (.ptr b 0) => match s.get b with
      | some (.miter (some r) since seen last) => match s.get r with
        | some (.map es _) => match es.all (fun e => Nat.blt e.2.2 since && seen.contains e.2.2) && Nat.ble since last with
          | true => some (.tup [.bool false], s)
          | false => none
        | _ => none
      | _ => none
    | _ => none
  | .entry x => match ev x with
    | some (.ptr b 0) => match s.get b with
      | some (.miter (some r) _ seen last) => match s.get r with
        | some (.map es clock) => if clock = last then match seen.getLast? with
            | some k => match es.find? (fun e => e.2.2 == k) with
              | some e => some (.tup [e.1, e.2.1], s)
              | none => none
            | none => none
          else none
        | _ => none
      | _ => none
    | _ => none
  | .fail => none
end
end Go.Proofs.Ytjejgnbdlfkenaa.D
namespace Go.Proofs.Ytjejgnbdlfkenaa.D
variable {P : Program} {R : Nat}

/-- It runs to its end, with that value. -/
def Goes (P : Program) (x : Sem Next) (w : World) (c : Value) (w' : World) : Prop := x.run P w = .ok (.value c) w' ∨ (x.run P w = .ok .skip w' ∧ c = undef)

/-- What is owed for an operation. -/
def Snd (P : Program) (R : Nat) (μ : Place) (s : St) (w : World) (x : Sem Next) (v : AV) (s' : St) : Prop :=
  ∃ ν c w', Goes P x w c w' ∧ conc ν v = some c ∧ HR P R ν s' w' ∧ Mv μ s w ν s' w'

theorem Snd.pure {μ : Place} {s : St} {w : World} {x : Sem Next} {v : AV} {c : Value} (h : HR P R μ s w) (hR : s.next ≤ R) (hr : x.run P w = .ok (.value c) w) (hc : conc μ v = some c) : Snd P R μ s w x v s :=
  ⟨μ, c, w, .inl hr, hc, h, Mv.refl h hR⟩

theorem run_und {t : TypeId} {d : TypeDesc} (h : P.underlying t = some d) (w : World) : (underlying t).run P w = .ok d w := by
  simp [underlying, h]

theorem run_info {t : TypeId} {i : TypeInfo} (h : P.info? t = some i) (w : World) : (typeInfo t).run P w = .ok i w := by
  simp [typeInfo, h]

theorem run_size {t : TypeId} {n : Nat} (h : sizeB P t = some n) (w : World) : (sizeOf t).run P w = .ok n w := by
  unfold sizeB at h
  simp only [Option.map_eq_some_iff] at h
  obtain ⟨i, hi, rfl⟩ := h
  simp [sizeOf, run_info hi]

theorem run_isAgg {t : TypeId} {b : Bool} (h : isAggB P t = some b) (w : World) : (isAgg t).run P w = .ok b w := by
  unfold isAggB at h
  unfold isAgg
  cases hu : P.underlying t with
  | none => rw [hu] at h; cases h
  | some d =>
    rw [hu] at h
    simp only [Sem.run_bind, run_und hu, Result.andThen_ok]
    cases d <;> simp_all

theorem zeroB_some {t : TypeId} {z : List AV} (h : zeroB P t = some z) : ∃ v : Value, (∀ w, (zeroValue t).run P w = .ok v w) ∧ ∀ μ, concs μ z = some v.cells.toList := by
  unfold zeroB at h
  split at h
  · rename_i v hv
    simp only [Option.bind_eq_some_iff] at hv
    obtain ⟨i, hi, hz⟩ := hv
    exact ⟨v, fun w => by simp [zeroValue, run_info hi, hz], fun μ => absLs_conc μ h⟩
  · cases h

theorem zeroV_some {t : TypeId} {z : AV} (h : zeroV P t = some z) : ∃ v : Value, (∀ w, (zeroValue t).run P w = .ok v w) ∧ ∀ μ, conc μ z = some v := by
  unfold zeroV at h
  split at h
  · rename_i v hv
    simp only [Option.bind_eq_some_iff] at hv
    obtain ⟨i, hi, hz⟩ := hv
    exact ⟨v, fun w => by simp [zeroValue, run_info hi, hz], fun μ => absV_conc h μ⟩
  · cases h

theorem Addr.add_mk (b o n : Nat) : (⟨b, o, none⟩ : Addr).add n = ⟨b, o + n, none⟩ := by
  unfold Addr.add
  split
  · rename_i h; simp [h]
  · rfl

/-- Cells that stand one beside the other are loaded. -/
theorem run_loadFrom (b o : Nat) (w : World) : ∀ (n i : Nat) (acc : Array Value) (l : List Value), l.length = n → (∀ j, j < n → w.cell? ⟨b, o + (i + j), none⟩ = l[j]?) →
    (loadCellsFrom ⟨b, o, none⟩ i n acc).run P w = .ok (acc ++ l.toArray) w := by
  intro n
  induction n with
  | zero => intro i acc l hl _; have : l = [] := List.length_eq_zero_iff.1 hl; subst this; simp [loadCellsFrom]
  | succ n ih =>
    intro i acc l hl h
    cases l with
    | nil => simp at hl
    | cons x l =>
      have h0 := h 0 (by omega)
      simp only [Nat.add_zero, List.getElem?_cons_zero] at h0
      simp only [loadCellsFrom, Sem.run_bind, run_load, Addr.add_mk, h0, Result.andThen_ok]
      rw [ih (i + 1) (acc.push x) l (by simpa using hl)]
      · simp
      · intro j hj
        have := h (j + 1) (by omega)
        simp only [List.getElem?_cons_succ] at this
        rw [← this]
        congr 2
        omega

theorem loadA_some {s : St} {b o n : Nat} {l : List AV} (h : loadA s b o n = some l) : ∃ vs lo ro z, s.get b = some (.cells vs lo ro z) ∧ o + n ≤ vs.length ∧ l = (vs.drop o).take n := by
  unfold loadA at h
  split at h
  · rename_i vs lo ro z hg
    split at h
    · cases h; exact ⟨vs, lo, ro, z, hg, by assumption, rfl⟩
    · cases h
  · cases h

theorem run_loadA {μ : Place} {s : St} {w : World} (h : HR P R μ s w) {b o n : Nat} {l : List AV} (hl : loadA s b o n = some l) {p : Nat × Nat} (hp : μ b = some p) :
    ∃ xs : List Value, concs μ l = some xs ∧ xs.length = n ∧ (loadCells ⟨p.1, o, none⟩ n).run P w = .ok xs.toArray w := by
  obtain ⟨vs, lo, ro, z, hg, hle, rfl⟩ := loadA_some hl
  obtain ⟨q, hq, c, el, fz, xs, rest, h1, h2, h3, _⟩ := h.obj _ _ hg
  rw [hp] at hq; cases hq
  have hlen := concs_length h2
  refine ⟨(xs.drop o).take n, concs_take (concs_drop h2 o) n, by simp; omega, ?_⟩
  unfold loadCells
  rw [run_loadFrom p.1 o w n 0 #[] ((xs.drop o).take n) (by simp; omega)]
  · simp
  · intro j hj
    have hlt : o + j < vs.length := by omega
    obtain ⟨x, hx, _⟩ := h.cell hg hp (List.getElem?_eq_getElem hlt)
    rw [Nat.zero_add, hx, List.getElem?_take_of_lt hj, List.getElem?_drop]
    simp only [World.cell?, h1, Option.isSome_none, Bool.false_eq_true, if_false] at hx
    rw [← hx, ← Array.getElem?_toList, h3, List.getElem?_append_left (by omega)]

theorem isSome_of_conc_ptr {μ : Place} {b o : Nat} {c : Value} (h : conc μ (.ptr b o) = some c) : ∃ p, μ b = some p ∧ c = .pointer (some ⟨p.1, o, none⟩) := by
  simp only [conc, Option.map_eq_some_iff] at h
  obtain ⟨p, hp, rfl⟩ := h
  exact ⟨p, hp, rfl⟩

/-- The operands are what they stand for. -/
def EvR (μ : Place) (ev : Ev) (ρ : Operand → Value) : Prop := ∀ y x v, prepX y = some x → ev x = some v → conc μ v = some (ρ y)

theorem execOp_value (ρ : Operand → Value) (o : Oper) (w : World) {x : Sem Value} {c : Value} {w' : World} (he : execOp ρ o = (do pure (.value (← x)))) (hx : x.run P w = .ok c w') :
    (execOp ρ o).run P w = .ok (.value c) w' := by
  rw [he]; simp [hx]
end Go.Proofs.Ytjejgnbdlfkenaa.D
namespace Go.Proofs.Ytjejgnbdlfkenaa.D
variable {P : Program} {R : Nat} {μ : Place} {s : St} {w : World} {ev : Ev} {ρ : Operand → Value} {o : Oper} {p : POp} {v : AV} {s' : St}

theorem pure'_some {x : Option AV} {s : St} {v : AV} {s' : St} (h : (match x with | some v => some (v, s) | none => none) = some (v, s')) : x = some v ∧ s = s' := by
  cases x with
  | none => cases h
  | some u => cases h; exact ⟨rfl, rfl⟩

theorem snd_move {x : Operand} (ho : o.op = .move x ∨ o.op = .assign x) (hp : prepOp P o = some p) (h : HR P R μ s w) (hρ : EvR μ ev ρ) (hx : xop p ev s = some (v, s')) (hR : s'.next ≤ R) : Snd P R μ s w (execOp ρ o) v s' := by
  have hp' : (prepX x).map POp.move = some p := by rcases ho with ho | ho <;> simpa only [prepOp, ho] using hp
  simp only [Option.map_eq_some_iff] at hp'
  obtain ⟨a, ha, rfl⟩ := hp'
  simp only [xop] at hx
  obtain ⟨hv, rfl⟩ := pure'_some hx
  refine Snd.pure h hR (c := ρ x) ?_ (hρ _ _ _ ha hv)
  rcases ho with ho | ho <;> simp [execOp, ho]

theorem conc_bool {b : Bool} {c : Value} (h : conc μ (.bool b) = some c) : c = .bool b := by simp only [conc, Option.some.injEq] at h; exact h.symm
theorem conc_int {k : IntKind} {n : Int} {c : Value} (h : conc μ (.int k n) = some c) : c = .int k n := by simp only [conc, Option.some.injEq] at h; exact h.symm
theorem conc_str {x : ByteArray} {c : Value} (h : conc μ (.str x) = some c) : c = .string x := by simp only [conc, Option.some.injEq] at h; exact h.symm
theorem conc_agg {l : List AV} {c : Value} (h : conc μ (.agg l) = some c) : ∃ xs, concs μ l = some xs ∧ c = .agg xs.toArray := by
  simp only [conc, Option.map_eq_some_iff] at h
  obtain ⟨xs, hx, rfl⟩ := h; exact ⟨xs, hx, rfl⟩
theorem conc_tup {l : List AV} {c : Value} (h : conc μ (.tup l) = some c) : ∃ xs, concs μ l = some xs ∧ c = .tuple xs.toArray := by
  simp only [conc, Option.map_eq_some_iff] at h
  obtain ⟨xs, hx, rfl⟩ := h; exact ⟨xs, hx, rfl⟩
theorem conc_slice {b o n k : Nat} {l : Bool} {c : Value} (h : conc μ (.slice b o n k l) = some c) : ∃ p, μ b = some p ∧ c = .slice (some ⟨p.1, o, none⟩) n (if l then k + p.2 else k) := by
  simp only [conc, Option.map_eq_some_iff] at h
  obtain ⟨p, hp, rfl⟩ := h; exact ⟨p, hp, rfl⟩
theorem conc_tail {b o n : Nat} {c : Value} (h : conc μ (.tail b o n) = some c) : ∃ p, μ b = some p ∧ c = .slice (some ⟨p.1, if p.2 = 0 then o else o + n, none⟩) 0 p.2 := by
  simp only [conc, Option.map_eq_some_iff] at h
  obtain ⟨p, hp, rfl⟩ := h; exact ⟨p, hp, rfl⟩
theorem conc_map {r : Nat} {c : Value} (h : conc μ (.map r) = some c) : ∃ p, μ r = some p ∧ c = .map (some p.1) := by
  simp only [conc, Option.map_eq_some_iff] at h
  obtain ⟨p, hp, rfl⟩ := h; exact ⟨p, hp, rfl⟩

theorem snd_pick {c a b : Operand} (ho : o.op = .pick c a b) (hp : prepOp P o = some p) (h : HR P R μ s w) (hρ : EvR μ ev ρ) (hx : xop p ev s = some (v, s')) (hR : s'.next ≤ R) : Snd P R μ s w (execOp ρ o) v s' := by
  simp only [prepOp, ho] at hp
  split at hp <;> first | cases hp | skip
  rename_i c' a' b' hc ha hb
  simp only [xop] at hx
  split at hx
  · rename_i hcv
    obtain ⟨hv, rfl⟩ := pure'_some hx
    have := conc_bool (hρ _ _ _ hc hcv)
    exact Snd.pure h hR (c := ρ a) (by simp [execOp, ho, this, asBool]) (hρ _ _ _ ha hv)
  · rename_i hcv
    obtain ⟨hv, rfl⟩ := pure'_some hx
    have := conc_bool (hρ _ _ _ hc hcv)
    exact Snd.pure h hR (c := ρ b) (by simp [execOp, ho, this, asBool]) (hρ _ _ _ hb hv)
  · cases hx

/-- A new row of cells. -/
theorem snd_new {x : Sem Next} {vs : List AV} {lo : Bool} {z e d : Nat} {c : Array Value} {elem : TypeId} {fz : Nat × Nat} {rest : List Value} {v : AV} {cv : Value}
    (h : HR P R μ s w) (hR : s.next + 1 ≤ R) {xs : List Value} (hxs : ∀ ν, Place.le μ ν → concs ν vs = some xs) (hc : c.toList = xs ++ rest) (hr : rest.length = e * z) (hl : lo = false → e = 0)
    (hf : ∀ i, i < c.size → ¬ (fz.1 ≤ i ∧ i < fz.2))
    (hrun : x.run P w = .ok (.value cv) { w with heap := w.heap.push (.cells c elem fz), drawn := d })
    (hv : conc (μ.add s.next (w.heap.size, e)) v = some cv) (hd : w.drawn ≤ d := by first | exact Nat.le_refl _ | exact Nat.le_succ _ | exact Nat.le_add_right _ _) : Snd P R μ s w x v (s.new (.cells vs lo false z)) := by
  have hle := h.le_add hR (w.heap.size, e)
  obtain ⟨h1, h2⟩ := h.new hR (.cells vs lo false z) (.cells c elem fz) e d ⟨c, elem, fz, xs, rest, World.push_new w _ d, hxs _ hle, hc, hr, hl, fun _ => hf⟩ hd
  exact ⟨_, cv, _, .inl hrun, hv, h1, h2⟩

theorem snd_alloc {e : TypeId} (ho : o.op = .alloc e) (hp : prepOp P o = some p) (h : HR P R μ s w) (_ : EvR μ ev ρ) (hx : xop p ev s = some (v, s')) (hR : s'.next ≤ R) : Snd P R μ s w (execOp ρ o) v s' := by
  simp only [prepOp, ho, Option.map_eq_some_iff] at hp
  obtain ⟨z, hz, rfl⟩ := hp
  obtain ⟨zv, hzr, hzc⟩ := zeroB_some hz
  simp only [xop, newA, Option.some.injEq, Prod.mk.injEq] at hx
  obtain ⟨rfl, rfl⟩ := hx
  refine snd_new (c := zv.cells) (elem := e) (fz := (0, 0)) (e := 0) (d := w.drawn) (rest := []) (cv := .pointer (some ⟨w.heap.size, 0, none⟩)) h hR (xs := zv.cells.toList) (fun ν _ => hzc ν) (by simp) (by simp) (fun _ => rfl) (by intro i _; simp) ?_ ?_
  · simp [execOp, ho, Instr.alloc, hzr, newVar, newRow]
  · simp [conc, Place.add]

theorem snd_box {e : TypeId} {x : Operand} (ho : o.op = .box e x) (hp : prepOp P o = some p) (h : HR P R μ s w) (hρ : EvR μ ev ρ) (hx : xop p ev s = some (v, s')) (hR : s'.next ≤ R) : Snd P R μ s w (execOp ρ o) v s' := by
  simp only [prepOp, ho, Option.map_eq_some_iff] at hp
  obtain ⟨a, ha, rfl⟩ := hp
  simp only [xop] at hx
  split at hx
  · rename_i u hu
    simp only [newA, Option.some.injEq, Prod.mk.injEq] at hx
    obtain ⟨rfl, rfl⟩ := hx
    have hc := hρ _ _ _ ha hu
    refine snd_new (c := (ρ x).cells) (elem := e) (fz := (0, 0)) (e := 0) (d := w.drawn) (rest := []) (cv := .pointer (some ⟨w.heap.size, 0, none⟩)) h hR (xs := (ρ x).cells.toList) (fun ν hν => conc_cells (conc_mono hν _ _ hc)) (by simp) (by simp) (fun _ => rfl) (by intro i _; simp) ?_ ?_
    · simp [execOp, ho, Instr.box, newVar, newRow]
    · simp [conc, Place.add]
  · cases hx

theorem snd_load {t : TypeId} {x : Operand} (ho : o.op = .load t x) (hp : prepOp P o = some p) (h : HR P R μ s w) (hρ : EvR μ ev ρ) (hx : xop p ev s = some (v, s')) (hR : s'.next ≤ R) : Snd P R μ s w (execOp ρ o) v s' := by
  simp only [prepOp, ho] at hp
  split at hp <;> cases hp
  · rename_i n a hag hsz ha
    simp only [xop] at hx
    split at hx <;> try cases hx
    rename_i b of hv
    split at hx <;> cases hx
    rename_i l hl
    obtain ⟨q, hq, hr⟩ := isSome_of_conc_ptr (hρ _ _ _ ha hv)
    obtain ⟨xs, hxs, _, hrun⟩ := run_loadA h hl hq
    refine Snd.pure h hR (c := .agg xs.toArray) ?_ (by simp [conc, hxs])
    simp [execOp, ho, Instr.loadAt, Instr.sureAddr, hr, loadVar, run_isAgg hag, run_size hsz, hrun]
  · rename_i n a hag ha
    simp only [xop] at hx
    split at hx <;> try cases hx
    rename_i b of hv
    split at hx <;> try cases hx
    rename_i vs lo ro z hg
    obtain ⟨hvs, rfl⟩ := pure'_some hx
    obtain ⟨q, hq, hr⟩ := isSome_of_conc_ptr (hρ _ _ _ ha hv)
    obtain ⟨c, hc, hcv⟩ := h.cell hg hq hvs
    refine Snd.pure h hR (c := c) ?_ hcv
    simp [execOp, ho, Instr.loadAt, Instr.sureAddr, hr, loadVar, run_isAgg hag, hc]

theorem snd_nilCheck {x : Operand} (ho : o.op = .nilCheck x) (hp : prepOp P o = some p) (h : HR P R μ s w) (hρ : EvR μ ev ρ) (hx : xop p ev s = some (v, s')) (hR : s'.next ≤ R) : Snd P R μ s w (execOp ρ o) v s' := by
  simp only [prepOp, ho, Option.map_eq_some_iff] at hp
  obtain ⟨a, ha, rfl⟩ := hp
  simp only [xop] at hx
  split at hx <;> cases hx
  · rename_i b of hv
    have hc := hρ _ _ _ ha hv
    obtain ⟨q, hq, hr⟩ := isSome_of_conc_ptr hc
    exact Snd.pure h hR (c := ρ x) (by simp [execOp, ho, hr]) hc
  · rename_i f a' c' hv
    have hc := hρ _ _ _ ha hv
    have hc' := hc
    simp only [conc] at hc'
    rw [if_pos (show Fn.plain (Fn.func f) = true from rfl)] at hc'
    simp only [Option.bind_eq_some_iff, Option.map_eq_some_iff] at hc'
    obtain ⟨y, _, z, _, hr⟩ := hc'
    exact Snd.pure h hR (c := ρ x) (by simp [execOp, ho, ← hr]) hc
  · rename_i r hv
    have hc := hρ _ _ _ ha hv
    have hc' := hc
    simp only [conc, Option.map_eq_some_iff] at hc'
    obtain ⟨q, _, hr⟩ := hc'
    exact Snd.pure h hR (c := ρ x) (by simp [execOp, ho, ← hr]) hc

theorem snd_mkIface {t : TypeId} {x : Operand} (ho : o.op = .makeInterface t x) (hp : prepOp P o = some p) (h : HR P R μ s w) (hρ : EvR μ ev ρ) (hx : xop p ev s = some (v, s')) (hR : s'.next ≤ R) : Snd P R μ s w (execOp ρ o) v s' := by
  simp only [prepOp, ho] at hp
  split at hp <;> cases hp
  rename_i d a hni hu ha
  simp only [xop] at hx
  split at hx <;> cases hx
  rename_i u hu'
  have hc := hρ _ _ _ ha hu'
  refine Snd.pure h hR (c := .iface t (ρ x)) ?_ (by simp [conc, hc])
  simp only [execOp, ho, Instr.makeInterface, Sem.run_bind, run_und hu, Result.andThen_ok]
  cases d <;> first | simp | (exact absurd rfl (hni _))

theorem evs_conc {l : List Operand} {xs : List X} (hp : prepXs l = some xs) (hρ : EvR μ ev ρ) : ∀ {vs : List AV}, evs ev xs = some vs → concs μ vs = some (l.map ρ) := by
  induction l generalizing xs with
  | nil => simp only [prepXs, Option.some.injEq] at hp; subst hp; intro vs hv; simp only [evs, Option.some.injEq] at hv; subst hv; rfl
  | cons y l ih =>
    simp only [prepXs] at hp
    split at hp <;> try cases hp
    rename_i a ha
    split at hp <;> cases hp
    rename_i r hr
    intro vs hv
    simp only [evs] at hv
    split at hv <;> try cases hv
    rename_i u hu
    split at hv <;> cases hv
    rename_i us hus
    simp only [concs, hρ _ _ _ ha hu, ih hr hus, Option.bind_some, Option.map_some, List.map_cons]

theorem snd_mkFunc {f : Fn} {a c : Array Operand} (ho : o.op = .makeFunc f a c) (hp : prepOp P o = some p) (h : HR P R μ s w) (hρ : EvR μ ev ρ) (hx : xop p ev s = some (v, s')) (hR : s'.next ≤ R) : Snd P R μ s w (execOp ρ o) v s' := by
  simp only [prepOp, ho] at hp
  split at hp <;> try cases hp
  rename_i hf
  split at hp <;> cases hp
  rename_i a' c' ha hc
  simp only [xop] at hx
  split at hx <;> cases hx
  rename_i va vc hva hvc
  have h1 := evs_conc ha hρ hva
  have h2 := evs_conc hc hρ hvc
  refine Snd.pure h hR (c := .func f (a.map ρ) (c.map ρ)) (by simp [execOp, ho, Instr.makeFunc]) ?_
  simp only [conc, if_pos hf, h1, h2, Option.bind_some, Option.map_some]
  rw [← Array.toList_map, ← Array.toList_map]

theorem snd_extract {x : Operand} {i : Nat} (ho : o.op = .extract x i) (hp : prepOp P o = some p) (h : HR P R μ s w) (hρ : EvR μ ev ρ) (hx : xop p ev s = some (v, s')) (hR : s'.next ≤ R) : Snd P R μ s w (execOp ρ o) v s' := by
  simp only [prepOp, ho, Option.map_eq_some_iff] at hp
  obtain ⟨a, ha, rfl⟩ := hp
  simp only [xop] at hx
  split at hx <;> try cases hx
  rename_i l hv
  obtain ⟨hl, rfl⟩ := pure'_some hx
  obtain ⟨xs, hxs, hr⟩ := conc_tup (hρ _ _ _ ha hv)
  obtain ⟨c, hc, hcv⟩ := concs_get hxs i v hl
  refine Snd.pure h hR (c := c) ?_ hcv
  simp [execOp, ho, Instr.extract, hr, hc]

theorem snd_makeMap {t : TypeId} (ho : o.op = .makeMap t none) (hp : prepOp P o = some p) (h : HR P R μ s w) (_ : EvR μ ev ρ) (hx : xop p ev s = some (v, s')) (hR : s'.next ≤ R) : Snd P R μ s w (execOp ρ o) v s' := by
  simp only [prepOp, ho, Option.some.injEq] at hp
  subst hp
  simp only [xop, newA, Option.some.injEq, Prod.mk.injEq] at hx
  obtain ⟨rfl, rfl⟩ := hx
  obtain ⟨h1, h2⟩ := h.new hR (.map [] 0) (.map #[] 0) 0 w.drawn ⟨#[], World.push_new w _ _, trivial⟩
  exact ⟨_, .map (some w.heap.size), _, .inl (by simp [execOp, ho, Instr.makeMap]), by simp [conc, Place.add], h1, h2⟩

theorem snd_fieldAddr {t : TypeId} {x : Operand} {i : Nat} (ho : o.op = .fieldAddr t x i) (hp : prepOp P o = some p) (h : HR P R μ s w) (hρ : EvR μ ev ρ) (hx : xop p ev s = some (v, s')) (hR : s'.next ≤ R) : Snd P R μ s w (execOp ρ o) v s' := by
  simp only [prepOp, ho] at hp
  split at hp <;> try cases hp
  rename_i f a hf ha
  split at hp <;> try cases hp
  rename_i n hn
  split at hp <;> cases hp
  rename_i hn0
  simp only [xop] at hx
  split at hx <;> cases hx
  rename_i b of hv
  obtain ⟨q, hq, hr⟩ := isSome_of_conc_ptr (hρ _ _ _ ha hv)
  refine Snd.pure h hR (c := .pointer (some ⟨q.1, of + f.offset, none⟩)) ?_ (by simp [conc, hq])
  unfold fieldOf at hf
  split at hf <;> try cases hf
  rename_i fs hu
  simp [execOp, ho, Instr.fieldAt, run_und hu, hf, Instr.sureAddr, hr, fieldPlace, run_size hn, hn0, Addr.add_mk]

theorem run_part {t : TypeId} {n : Option Nat} {cs : List AV} {off : Nat} {v : AV} {xs : List Value} (hn : (isAggB P t = some true ∧ ∃ k, sizeB P t = some k ∧ n = some k) ∨ (isAggB P t = some false ∧ n = none))
    (hxs : concs μ cs = some xs) (hv : partA n cs off = some v) (w : World) : ∃ c, conc μ v = some c ∧ (part t xs.toArray off).run P w = .ok c w := by
  rcases hn with ⟨hag, k, hk, rfl⟩ | ⟨hag, rfl⟩
  · simp only [partA, Option.some.injEq] at hv
    subst hv
    refine ⟨.agg ((xs.drop off).take k).toArray, by simp [conc, concs_take (concs_drop hxs off) k], ?_⟩
    simp [part, run_isAgg hag, run_size hk]
  · simp only [partA] at hv
    obtain ⟨c, hc, hcv⟩ := concs_get hxs off v hv
    refine ⟨c, hcv, ?_⟩
    simp [part, run_isAgg hag, hc]

theorem snd_field {t : TypeId} {x : Operand} {i : Nat} (ho : o.op = .field t x i) (hp : prepOp P o = some p) (h : HR P R μ s w) (hρ : EvR μ ev ρ) (hx : xop p ev s = some (v, s')) (hR : s'.next ≤ R) : Snd P R μ s w (execOp ρ o) v s' := by
  simp only [prepOp, ho] at hp
  split at hp <;> try cases hp
  rename_i f a hf ha
  unfold fieldOf at hf
  split at hf <;> try cases hf
  rename_i fs hu
  split at hp <;> cases hp
  · rename_i n hag hn
    simp only [xop] at hx
    split at hx
    case h_2 => cases hx
    rename_i l hv
    obtain ⟨hl, rfl⟩ : partA (some n) l f.offset = some v ∧ s = s' := by cases hx; exact ⟨rfl, rfl⟩
    obtain ⟨xs, hxs, hr⟩ := conc_agg (hρ _ _ _ ha hv)
    obtain ⟨c, hc, hrun⟩ := run_part (.inl ⟨hag, n, hn, rfl⟩) hxs hl w
    exact Snd.pure h hR (c := c) (by simp [execOp, ho, Instr.field, run_und hu, hf, asAgg, hr, hrun]) hc
  · rename_i n hag
    simp only [xop] at hx
    split at hx <;> try cases hx
    rename_i l hv
    obtain ⟨hl, rfl⟩ := pure'_some hx
    obtain ⟨xs, hxs, hr⟩ := conc_agg (hρ _ _ _ ha hv)
    obtain ⟨c, hc, hrun⟩ := run_part (.inr ⟨hag, rfl⟩) hxs hl w
    exact Snd.pure h hR (c := c) (by simp [execOp, ho, Instr.field, run_und hu, hf, asAgg, hr, hrun]) hc
end Go.Proofs.Ytjejgnbdlfkenaa.D
namespace Go.Proofs.Ytjejgnbdlfkenaa.D
variable {P : Program} {R : Nat} {μ : Place} {s : St} {w : World} {ev : Ev} {ρ : Operand → Value} {o : Oper} {p : POp} {v : AV} {s' : St}

theorem seg_step {α : Type} (l : List α) (k : Nat) (v : α) (rest : List α) (h : k + 1 + rest.length ≤ l.length) :
    (l.set k v).take (k + 1) ++ rest ++ (l.set k v).drop (k + 1 + rest.length) = l.take k ++ (v :: rest) ++ l.drop (k + (rest.length + 1)) := by
  have hk : k < l.length := by omega
  have h1 : (l.set k v).take (k + 1) = l.take k ++ [v] := by
    rw [List.take_set, List.take_succ_eq_append_getElem hk, List.set_append_right _ _ (by simp; omega)]
    simp [Nat.min_eq_left (Nat.le_of_lt hk)]
  have h2 : (l.set k v).drop (k + 1 + rest.length) = l.drop (k + (rest.length + 1)) := by
    rw [List.drop_set_of_lt (by omega)]
    congr 1; omega
  rw [h1, h2]; simp

/-- Cells that stand one beside the other are stored. -/
theorem run_storeList (g o : Nat) (t : TypeId) (fz : Nat × Nat) : ∀ (vs : List Value) (i : Nat) (cur : Array Value) (w : World), w.heap[g]? = some (.cells cur t fz) →
    (∀ j, j < cur.size → ¬ (fz.1 ≤ j ∧ j < fz.2)) → o + i + vs.length ≤ cur.size → (∀ v ∈ vs, v.oneCell' = true) →
    ∃ (w' : World) (cur' : Array Value), (storeCells ⟨g, o, none⟩ vs i).run P w = .ok () w' ∧ w'.heap[g]? = some (.cells cur' t fz) ∧ cur'.toList = cur.toList.take (o + i) ++ vs ++ cur.toList.drop (o + i + vs.length) ∧
      w'.os = w.os ∧ w'.output = w.output ∧ TapeLe w w' ∧ w'.heap.size = w.heap.size ∧ ∀ k, k ≠ g → w'.heap[k]? = w.heap[k]? := by
  intro vs
  induction vs with
  | nil =>
    intro i cur w hg _ _ _
    exact ⟨w, cur, rfl, hg, by simp, rfl, rfl, .refl _, rfl, fun _ _ => rfl⟩
  | cons v rest ih =>
    intro i cur w hg hf hl h1
    have hi : o + i < cur.size := by simp at hl; omega
    have hcell : w.cell? ⟨g, o + i, none⟩ = some cur[o + i] := by simp [World.cell?, hg, hi]
    have hfro : w.frozen? ⟨g, o + i, none⟩ = false := by
      have := hf (o + i) hi
      simp [World.frozen?, hg]
      intro h1
      omega
    have hglt : g < w.heap.size := (Array.getElem?_eq_some_iff.1 hg).1
    have hst : (store ((⟨g, o, none⟩ : Addr).add i) v).run P w = .ok () (w.setCell ⟨g, o + i, none⟩ v) := by
      rw [Addr.add_mk, run_store P w _ v _ (h1 v (by simp)), hcell]
      simp [hfro]
    have hg' : (w.setCell ⟨g, o + i, none⟩ v).heap[g]? = some (.cells (cur.setIfInBounds (o + i) v) t fz) := by
      have := (Array.getElem?_eq_some_iff.1 hg).2
      simp [World.setCell, Array.getElem?_modify, hg]
    obtain ⟨w', cur', e1, e2, e3, e4, e5, e6, e7, e8⟩ := ih (i + 1) (cur.setIfInBounds (o + i) v) (w.setCell ⟨g, o + i, none⟩ v) hg' (by simpa using hf) (by simp at hl ⊢; omega) (fun x hx => h1 x (by simp [hx]))
    refine ⟨w', cur', ?_, e2, ?_, e4, e5, ⟨e6.eq, e6.dr⟩, ?_, ?_⟩
    · simp only [storeCells, Sem.run_bind, hst, Result.andThen_ok, e1]
    · rw [e3]
      have e := seg_step cur.toList (o + i) v rest (by simp at hl ⊢; omega)
      simpa [Array.toList_setIfInBounds, Nat.add_assoc] using e
    · rw [e7]; simp [World.setCell]
    · intro k hk
      rw [e8 k hk]
      simp [World.setCell, Array.getElem?_modify]
      omega

theorem allCell_conc {l : List AV} (h : allCell l = true) : ∀ {xs : List Value}, concs μ l = some xs → ∀ x ∈ xs, x.oneCell' = true := by
  induction l with
  | nil => intro xs hx x hm; simp only [concs, Option.some.injEq] at hx; subst hx; cases hm
  | cons a l ih =>
    intro xs hx x hm
    simp only [allCell, Bool.and_eq_true] at h
    simp only [concs, Option.bind_eq_some_iff, Option.map_eq_some_iff] at hx
    obtain ⟨y, hy, z, hz, rfl⟩ := hx
    cases hm with
    | head =>
      have h2 := conc_cell hy h.1
      cases x <;> first | rfl | exact absurd rfl (h2 _).1 | exact absurd rfl (h2 _).2
    | tail _ hm => exact ih h.2 hz x hm

theorem concs_splice {l vs : List AV} {xs ys : List Value} (h : concs μ l = some xs) (k : concs μ vs = some ys) (off : Nat) : concs μ (splice l off vs) = some (xs.take off ++ ys ++ xs.drop (off + ys.length)) := by
  unfold splice
  rw [← concs_length k]
  exact concs_append (concs_append (concs_take h off) k) (concs_drop h _)

theorem storeA_some {s : St} {b o : Nat} {l : List AV} {s' : St} (h : storeA s b o l = some s') : ∃ vs lo z, s.get b = some (.cells vs lo false z) ∧ o + l.length ≤ vs.length ∧ allCell l = true ∧ s' = s.put b (.cells (splice vs o l) lo false z) := by
  unfold storeA at h
  split at h
  · rename_i vs lo z hg
    split at h
    · rename_i hc
      cases h; exact ⟨vs, lo, z, hg, hc.1, hc.2, rfl⟩
    · cases h
  · cases h

/-- A store into a block that is known. -/
theorem run_storeA {s : St} {w : World} (h : HR P R μ s w) {b o : Nat} {l : List AV} {s' : St} (hR : s'.next ≤ R) (hs : storeA s b o l = some s') {q : Nat × Nat} (hq : μ b = some q) {ys : List Value} (hy : concs μ l = some ys) :
    ∃ w', (storeCells ⟨q.1, o, none⟩ ys).run P w = .ok () w' ∧ HR P R μ s' w' ∧ Mv μ s w μ s' w' := by
  obtain ⟨vs, lo, z, hg, hle, hac, rfl⟩ := storeA_some hs
  obtain ⟨q', hq', c, el, fz, xs, rest, h1, h2, h3, h4, h5, h6⟩ := h.obj _ _ hg
  rw [hq] at hq'; cases hq'
  have hlen := concs_length h2
  have hly := concs_length hy
  have hcs : c.size = xs.length + rest.length := by rw [← Array.length_toList, h3]; simp
  obtain ⟨w', cur', e1, e2, e3, e4, e5, e6, e7, e8⟩ := run_storeList (P := P) q.1 o el fz ys 0 c w h1 (h6 rfl) (by omega) (allCell_conc hac hy)
  refine ⟨w', e1, h.turn hR hg hq (by simp) ?_ e4 e5 e6 e7 e8⟩
  refine ⟨cur', el, fz, xs.take o ++ ys ++ xs.drop (o + ys.length), rest, e2, concs_splice h2 hy o, ?_, h4, h5, ?_⟩
  · rw [e3, h3]
    simp only [Nat.add_zero]
    rw [List.take_append_of_le_length (by omega), List.drop_append_of_le_length (by omega)]
    simp
  · intro _ i hi
    have : cur'.size = c.size := by
      rw [← Array.length_toList, e3, ← Array.length_toList]
      simp
      omega
    exact h6 rfl i (by omega)

theorem snd_store {t : TypeId} {x y : Operand} (ho : o.op = .store t x y) (hp : prepOp P o = some p) (h : HR P R μ s w) (hρ : EvR μ ev ρ) (hx : xop p ev s = some (v, s')) (hR : s'.next ≤ R) : Snd P R μ s w (execOp ρ o) v s' := by
  simp only [prepOp, ho] at hp
  split at hp <;> cases hp
  rename_i n a b hn ha hb
  simp only [xop] at hx
  split at hx <;> try cases hx
  rename_i bb of u hav hbv
  split at hx <;> try cases hx
  rename_i hcl
  split at hx <;> cases hx
  rename_i hs
  obtain ⟨q, hq, hr⟩ := isSome_of_conc_ptr (hρ _ _ _ ha hav)
  have hc := hρ _ _ _ hb hbv
  have hcc := conc_cells hc
  obtain ⟨w', hrun, h1, h2⟩ := run_storeA h hR hs hq hcc
  refine ⟨μ, undef, w', .inr ⟨?_, rfl⟩, rfl, h1, h2⟩
  have hlen : (ρ y).cells.size = n := by have := concs_length hcc; simp at this; omega
  simp [execOp, ho, Instr.storeAt, Instr.sureAddr, hr, storeVar, run_size hn, hlen, hrun]

theorem foldl_splice (off : Nat) : ∀ (l : List Value) (k : Nat) (cs : Array Value), off + k + l.length ≤ cs.size →
    (List.foldl (fun (cs : Array Value) (x : Value × Nat) => cs.setIfInBounds (off + x.2) x.1) cs (l.zipIdx k)).toList = cs.toList.take (off + k) ++ l ++ cs.toList.drop (off + k + l.length) := by
  intro l
  induction l with
  | nil => intro k cs _; simp
  | cons x l ih =>
    intro k cs h
    simp only [List.zipIdx_cons, List.foldl_cons]
    rw [ih (k + 1) _ (by simp at h ⊢; omega)]
    have e := seg_step cs.toList (off + k) x l (by simp at h ⊢; omega)
    simpa [Array.toList_setIfInBounds, Nat.add_assoc] using e

theorem run_fill {place : Nat → Option (Nat × Nat)} : ∀ {parts : List (Nat × Operand)} {pp : List (Nat × Nat × X)} (_ : prepParts place parts = some pp) {z l : List AV} {zs : Array Value} (_ : EvR μ ev ρ)
    (_ : concs μ z = some zs.toList) (_ : fillA ev z pp = some l), ∃ cs : Array Value, Instr.fill place zs (parts.map fun x => (x.1, ρ x.2)) = some cs ∧ concs μ l = some cs.toList
  | [], pp, hp, z, l, zs, _, hz, hf => by
    simp only [prepParts, Option.some.injEq] at hp
    subst hp
    simp only [fillA, Option.some.injEq] at hf
    subst hf
    exact ⟨zs, by simp [Instr.fill], hz⟩
  | (i, y) :: r, pp, hp, z, l, zs, hρ, hz, hf => by
    simp only [prepParts] at hp
    split at hp <;> cases hp
    rename_i off size x l' hi hy hr
    simp only [fillA] at hf
    split at hf
    case h_2 => cases hf
    rename_i u hu
    split at hf
    case isFalse => cases hf
    rename_i hc
    have hcc := conc_cells (hρ _ _ _ hy hu)
    have hlen := concs_length hcc
    have hlz := concs_length hz
    simp at hlen hlz
    have hsz : (ρ y).cells.size = size := by omega
    have hsp := concs_splice hz hcc off
    have e := foldl_splice off (ρ y).cells.toList 0 zs (by simp; omega)
    simp only [Nat.add_zero] at e
    rw [← e] at hsp
    obtain ⟨cs, h1, h2⟩ := run_fill hr hρ hsp hf
    refine ⟨cs, ?_, h2⟩
    simp only [List.map_cons, Instr.fill, hi]
    rw [if_neg (by simp; omega)]
    rw [← h1]
    congr 1
    rw [← Array.foldl_toList]
    simp

theorem fieldPlaces_some {fs : Array Field} {l : List (Nat × Nat)} (h : fieldPlaces P fs = some l) (w : World) : ∃ pl : Array (Nat × Nat), (fs.mapM fun (f : Field) => (do pure (f.offset, ← sizeOf f.type) : Sem (Nat × Nat))).run P w = .ok pl w ∧ pl.toList = l := by
  unfold fieldPlaces at h
  have key : ∀ (fl : List Field) (l : List (Nat × Nat)), fl.foldr (fun f acc => match sizeB P f.type, acc with
      | some s, some l => some ((f.offset, s) :: l)
      | _, _ => none) (some []) = some l → (fl.mapM fun (f : Field) => (do pure (f.offset, ← sizeOf f.type) : Sem (Nat × Nat))).run P w = .ok l w := by
    intro fl
    induction fl with
    | nil => intro l h; simp at h; subst h; simp
    | cons f fl ih =>
      intro l h
      simp only [List.foldr_cons] at h
      split at h <;> cases h
      rename_i n l' hn hl
      simp only [List.mapM_cons, Sem.run_bind, run_size hn, Result.andThen_ok, Sem.run_pure, ih _ hl]
  have := key _ _ h
  refine ⟨l.toArray, ?_, by simp⟩
  rw [Array.mapM_eq_mapM_toList, Sem.run_map, this]
  rfl

theorem snd_build {t : TypeId} {parts : Array (Nat × Operand)} (ho : o.op = .build t parts) (hp : prepOp P o = some p) (h : HR P R μ s w) (hρ : EvR μ ev ρ) (hx : xop p ev s = some (v, s')) (hR : s'.next ≤ R) : Snd P R μ s w (execOp ρ o) v s' := by
  simp only [prepOp, ho] at hp
  split at hp
  case h_3 => cases hp
  · rename_i fs z hu hz
    split at hp
    case h_2 => cases hp
    rename_i pl hpl
    simp only [Option.map_eq_some_iff] at hp
    obtain ⟨pp, hpp, rfl⟩ := hp
    simp only [xop] at hx
    split at hx <;> cases hx
    rename_i l hl
    obtain ⟨zv, hzr, hzc⟩ := zeroB_some hz
    obtain ⟨cs, h1, h2⟩ := run_fill hpp hρ (hzc μ) hl
    obtain ⟨pla, hpr, hpe⟩ := fieldPlaces_some hpl w
    refine Snd.pure h hR (c := .agg cs) ?_ (by simp [conc, h2])
    subst hpe
    have h1' : Instr.fill (fun i => pla[i]?) zv.cells (List.map (fun x => (x.1, ρ x.2)) parts.toList) = some cs := by
      rw [← h1]; congr 1; funext i; simp
    simp only [execOp, ho, Instr.build, Sem.run_bind, hzr, Result.andThen_ok, run_und hu, hpr]
    simp [h1']
  · rename_i n e z hu hz
    split at hp
    case h_2 => cases hp
    rename_i sz hsz
    simp only [Option.map_eq_some_iff] at hp
    obtain ⟨pp, hpp, rfl⟩ := hp
    simp only [xop] at hx
    split at hx <;> cases hx
    rename_i l hl
    obtain ⟨zv, hzr, hzc⟩ := zeroB_some hz
    obtain ⟨cs, h1, h2⟩ := run_fill hpp hρ (hzc μ) hl
    refine Snd.pure h hR (c := .agg cs) ?_ (by simp [conc, h2])
    simp only [execOp, ho, Instr.build, Sem.run_bind, hzr, Result.andThen_ok, run_und hu, run_size hsz]
    simp [h1]

theorem range_mod_flatten (zs : Array Value) (n : Nat) : (Array.range (n * zs.size)).map (fun i => zs[i % zs.size]!) = (List.replicate n zs.toList).flatten.toArray := by
  apply Array.ext'
  simp only [Array.toList_map, Array.toList_range]
  induction n with
  | zero => simp
  | succ n ih =>
    rw [Nat.succ_mul, Nat.add_comm, List.range_add, List.map_append, List.replicate_succ, List.flatten_cons, List.map_map]
    congr 1
    · apply List.ext_getElem
      · simp
      · intro i h1 h2
        simp at h1
        simp [Nat.mod_eq_of_lt h1, h1]
    · rw [← ih]
      apply List.map_congr_left
      intro i _
      simp
end Go.Proofs.Ytjejgnbdlfkenaa.D
namespace Go.Proofs.Ytjejgnbdlfkenaa.D
variable {P : Program} {R : Nat} {μ : Place} {s : St} {w : World} {ev : Ev} {ρ : Operand → Value} {o : Oper} {p : POp} {v : AV} {s' : St}

theorem concs_rep {z : List AV} {l : List Value} (h : concs μ z = some l) (n : Nat) : concs μ (List.replicate n z).flatten = some (List.replicate n l).flatten := by
  induction n with
  | zero => rfl
  | succ n ih => simp only [List.replicate_succ, List.flatten_cons]; exact concs_append h ih

theorem snd_buildSlice {t : TypeId} {n : Nat} {parts : Array (Nat × Operand)} (ho : o.op = .buildSlice t n parts) (hp : prepOp P o = some p) (h : HR P R μ s w) (hρ : EvR μ ev ρ) (hx : xop p ev s = some (v, s')) (hR : s'.next ≤ R) : Snd P R μ s w (execOp ρ o) v s' := by
  simp only [prepOp, ho] at hp
  split at hp
  case h_2 => cases hp
  rename_i e hu
  split at hp
  case h_2 => cases hp
  rename_i sz z hsz hz
  split at hp
  case isFalse => cases hp
  rename_i hcond
  simp only [Bool.and_eq_true, beq_iff_eq, decide_eq_true_eq] at hcond
  obtain ⟨hszl, hle⟩ := hcond
  simp only [Option.map_eq_some_iff] at hp
  obtain ⟨pp, hpp, rfl⟩ := hp
  simp only [xop] at hx
  split at hx
  case h_2 => cases hx
  rename_i l hl
  simp only [newA, Option.some.injEq, Prod.mk.injEq] at hx
  obtain ⟨rfl, rfl⟩ := hx
  obtain ⟨zv, hzr, hzc⟩ := zeroB_some hz
  have hzl := concs_length (hzc μ)
  simp at hzl
  have hzs := concs_rep (hzc μ) n
  obtain ⟨cs, h1, h2⟩ := run_fill hpp hρ (zs := (List.replicate n zv.cells.toList).flatten.toArray) (by rw [hzs]) hl
  refine snd_new (c := cs) (elem := e) (fz := (0, 0)) (e := 0) (d := w.drawn) (rest := []) (cv := .slice (some ⟨w.heap.size, 0, none⟩) n n) h hR (xs := cs.toList) (fun ν hν => concs_mono hν _ _ h2) (by simp) (by simp) (fun _ => rfl) (by intro i _; simp) ?_ (by simp [conc, Place.add])
  have hge : ¬ (n * sz > 2 ^ 24) := by omega
  have hzv : zv.cells.size = sz := by omega
  have hr := range_mod_flatten zv.cells n
  rw [hzv] at hr
  simp only [execOp, ho, Instr.buildSlice, Sem.run_bind, run_und hu, Result.andThen_ok, run_size hsz, if_neg hge, Sem.run_pure]
  by_cases h0 : n * sz = 0
  · have hrep : (List.replicate n zv.cells.toList).flatten.toArray = #[] := by
      rw [← hr, h0]; simp
    rw [hrep] at h1
    have hz0 : Array.range 0 = #[] := by simp
    simp only [h0, if_true, Sem.run_pure, Result.andThen_ok, hz0, List.map_toArray, List.map_nil, Sem.run_bind]
    simp [h1, newRow]
  · simp only [if_neg h0, Sem.run_bind, hzr, Result.andThen_ok, Sem.run_pure, hzv, hr]
    simp [h1, newRow]

theorem indexA_some {v : AV} {len k : Nat} (h : indexA v len = some k) : ∃ kk n, v = .int kk n ∧ 0 ≤ n ∧ n < (len : Int) ∧ k = n.toNat := by
  unfold indexA at h
  split at h
  · rename_i kk n
    split at h <;> cases h
    rename_i hc
    exact ⟨kk, n, rfl, hc.1, hc.2, rfl⟩
  · cases h

theorem snd_indexAddr {t : TypeId} {x y : Operand} (ho : o.op = .indexAddr t x y) (hp : prepOp P o = some p) (h : HR P R μ s w) (hρ : EvR μ ev ρ) (hx : xop p ev s = some (v, s')) (hR : s'.next ≤ R) : Snd P R μ s w (execOp ρ o) v s' := by
  simp only [prepOp, ho] at hp
  split at hp
  case h_3 => cases hp
  · rename_i n e a i hu ha hi
    simp only [Option.map_eq_some_iff] at hp
    obtain ⟨sz, hsz, rfl⟩ := hp
    simp only [xop] at hx
    split at hx
    case h_2 => cases hx
    rename_i b of iv hav hiv
    split at hx <;> cases hx
    rename_i k hk
    obtain ⟨kk, m, rfl, hm0, hm1, rfl⟩ := indexA_some hk
    obtain ⟨q, hq, hr⟩ := isSome_of_conc_ptr (hρ _ _ _ ha hav)
    have hri := conc_int (hρ _ _ _ hi hiv)
    refine Snd.pure h hR (c := .pointer (some ⟨q.1, of + m.toNat * sz, none⟩)) ?_ (by simp [conc, hq])
    simp [execOp, ho, Instr.indexAt, hri, asIntOf, run_und hu, hr, Instr.sureAddr, hm0, hm1, run_size hsz, Addr.add_mk]
  · rename_i e a i hu ha hi
    simp only [Option.map_eq_some_iff] at hp
    obtain ⟨sz, hsz, rfl⟩ := hp
    simp only [xop] at hx
    split at hx
    case h_2 => cases hx
    rename_i b of len _ _ iv hav hiv
    split at hx <;> cases hx
    rename_i k hk
    obtain ⟨kk, m, rfl, hm0, hm1, rfl⟩ := indexA_some hk
    obtain ⟨q, hq, hr⟩ := conc_slice (hρ _ _ _ ha hav)
    have hri := conc_int (hρ _ _ _ hi hiv)
    refine Snd.pure h hR (c := .pointer (some ⟨q.1, of + m.toNat * sz, none⟩)) ?_ (by simp [conc, hq])
    simp [execOp, ho, Instr.indexAt, hri, asIntOf, run_und hu, hr, hm0, hm1, run_size hsz, Addr.add_mk]

theorem snd_index {t : TypeId} {x y : Operand} (ho : o.op = .index t x y) (hp : prepOp P o = some p) (h : HR P R μ s w) (hρ : EvR μ ev ρ) (hx : xop p ev s = some (v, s')) (hR : s'.next ≤ R) : Snd P R μ s w (execOp ρ o) v s' := by
  simp only [prepOp, ho] at hp
  split at hp
  case h_3 => cases hp
  · rename_i n e a i hu ha hi
    split at hp <;> cases hp
    rename_i b sz hag hsz
    simp only [xop] at hx
    split at hx
    case h_2 => cases hx
    rename_i l iv hav hiv
    split at hx
    case h_2 => cases hx
    rename_i k hk
    obtain ⟨kk, m, rfl, hm0, hm1, rfl⟩ := indexA_some hk
    have hpart : partA (if b = true then some sz else none) l (m.toNat * sz) = some v ∧ s = s' := pure'_some hx
    obtain ⟨hl, rfl⟩ := hpart
    obtain ⟨xs, hxs, hr⟩ := conc_agg (hρ _ _ _ ha hav)
    have hri := conc_int (hρ _ _ _ hi hiv)
    obtain ⟨c, hc, hrun⟩ := run_part (P := P) (t := e) (n := if b = true then some sz else none) (by cases b <;> simp [hag, hsz]) hxs hl w
    refine Snd.pure h hR (c := c) ?_ hc
    simp [execOp, ho, Instr.index, hri, asIntOf, run_und hu, hr, hm0, hm1, run_size hsz, hrun]
  · rename_i a i hu ha hi
    cases hp
    simp only [xop] at hx
    split at hx
    case h_2 => cases hx
    rename_i sv iv hav hiv
    split at hx
    case h_2 => cases hx
    rename_i k hk
    obtain ⟨kk, m, rfl, hm0, hm1, rfl⟩ := indexA_some hk
    split at hx <;> cases hx
    rename_i c hc
    have hr := conc_str (hρ _ _ _ ha hav)
    have hri := conc_int (hρ _ _ _ hi hiv)
    refine Snd.pure h hR (c := .int .u8 c.toNat) ?_ rfl
    simp [execOp, ho, Instr.index, hri, asIntOf, run_und hu, hr, hm0, hc]

theorem boundA_some {v : AV} {y k : Nat} (h : boundA v y = some k) : ∃ kk n, v = .int kk n ∧ 0 ≤ n ∧ n ≤ (y : Int) ∧ k = n.toNat ∧ k ≤ y := by
  unfold boundA at h
  split at h
  · rename_i kk n
    split at h <;> cases h
    rename_i hc
    exact ⟨kk, n, rfl, hc.1, hc.2, rfl, by omega⟩
  · cases h

theorem run_boundA {v : AV} {y y' k : Nat} (h : boundA v y = some k) (hy : y ≤ y') {c : Value} (hc : conc μ v = some c) (code : BoundsCode) (w : World) : (Instr.sliceBound c y' code).run P w = .ok k w := by
  obtain ⟨kk, n, rfl, h0, h1, rfl, _⟩ := boundA_some h
  have := conc_int hc
  subst this
  simp [Instr.sliceBound, asIntOf, h0, show n ≤ (y' : Int) by omega]

/-- An operand that may not be there. -/
def OptV (μ : Place) : Option AV → Option Value → Prop
  | none, none => True
  | some v, some c => conc μ v = some c
  | _, _ => False

theorem evO_conc {x : Option Operand} {y : Option X} (hp : optX x = some y) (hρ : EvR μ ev ρ) {v : Option AV} (hv : evO ev y = some v) : OptV μ v (x.map ρ) := by
  cases x with
  | none => simp only [optX, Option.some.injEq] at hp; subst hp; simp only [evO, Option.some.injEq] at hv; subst hv; trivial
  | some x =>
    simp only [optX, Option.map_eq_some_iff] at hp
    obtain ⟨a, ha, rfl⟩ := hp
    simp only [evO] at hv
    split at hv <;> cases hv
    rename_i u hu
    exact hρ _ _ _ ha hu

/-- The bounds of a slice expression, where the capacity is what is told, or, without a third bound, more. -/
theorem run_bounds {len cap cap' l hh m : Nat} {lo hi mx : Option AV} (h : boundsA len cap lo hi mx = some (l, hh, m)) {clo chi cmx : Option Value} (h1 : OptV μ lo clo) (h2 : OptV μ hi chi) (h3 : OptV μ mx cmx)
    (hcap : cap ≤ cap') (isSlice : Bool) (w : World) :
    (Instr.sliceBounds isSlice len cap' clo chi cmx).run P w = .ok (l, hh, if mx.isNone then cap' else m) w ∧ l ≤ hh ∧ hh ≤ m ∧ m ≤ cap ∧ (mx = none → m = cap) ∧ (hi = none → hh = len) := by
  unfold boundsA at h
  split at h
  case h_1 => cases h
  rename_i m0 hm0
  split at h
  case h_1 => cases h
  rename_i hh0 hh0e
  split at h
  case h_1 => cases h
  rename_i l0 hl0
  cases h
  have hmx : mx = none → m = cap := by intro e; subst e; simp at hm0; exact hm0.symm
  have hmle : m ≤ cap := by
    cases mx with
    | none => simp at hm0; omega
    | some u => simp at hm0; obtain ⟨_, _, _, _, _, _, hle⟩ := boundA_some hm0; exact hle
  -- the run of each
  have hlo : l ≤ hh ∧ ∀ code w, (match clo with | some v => Instr.sliceBound v hh code | none => pure 0).run P w = .ok l w := by
    cases lo with
    | none => cases clo with
      | none => simp at hl0; subst hl0; exact ⟨Nat.zero_le _, fun _ _ => rfl⟩
      | some _ => exact h1.elim
    | some u => cases clo with
      | none => exact h1.elim
      | some c => simp at hl0; obtain ⟨_, _, _, _, _, _, hle⟩ := boundA_some hl0; exact ⟨hle, fun code w => run_boundA hl0 (Nat.le_refl _) h1 code w⟩
  cases mx with
  | none => cases cmx with
    | some _ => exact h3.elim
    | none =>
      have e := hmx rfl
      subst e
      cases hi with
      | none => cases chi with
        | some _ => exact h2.elim
        | none =>
          simp at hh0e
          obtain ⟨hlm, hh0e⟩ := hh0e
          subst hh0e
          refine ⟨?_, hlo.1, hlm, hmle, fun _ => rfl, fun _ => rfl⟩
          have := hlo.2 .sliceB w
          cases clo <;> simp only [] at this <;> simp_all [Instr.sliceBounds]
      | some u => cases chi with
        | none => exact h2.elim
        | some c =>
          simp at hh0e
          obtain ⟨_, _, _, _, _, _, hle⟩ := boundA_some hh0e
          refine ⟨?_, hlo.1, hle, hmle, fun _ => rfl, by simp⟩
          have := hlo.2 .sliceB w
          have hb := fun code w => run_boundA (P := P) hh0e hcap h2 code w
          cases clo <;> simp only [] at this <;> simp_all [Instr.sliceBounds]
  | some u => cases cmx with
    | none => exact h3.elim
    | some cm =>
      simp at hm0
      have hbm := fun code w => run_boundA (P := P) hm0 hcap h3 code w
      cases hi with
      | none => simp at hh0e
      | some u => cases chi with
        | none => exact h2.elim
        | some c =>
          simp at hh0e
          obtain ⟨_, _, _, _, _, _, hle⟩ := boundA_some hh0e
          refine ⟨?_, hlo.1, hle, hmle, fun e => (by cases e), by simp⟩
          have := hlo.2 .slice3C w
          have hb := fun code w => run_boundA (P := P) hh0e (Nat.le_refl _) h2 code w
          cases clo <;> simp only [] at this <;> simp_all [Instr.sliceBounds]
end Go.Proofs.Ytjejgnbdlfkenaa.D

/- Values of an abstract machine that follows the model, whatever the tape says: numbers of blocks are its own, a row that append made has a capacity that is not known. Plain definitions and laws; no program.
The code of the abstract machine, and how it is made of the model's: each operation with the sizes that its types tell. Plain definitions.
Functions of the abstract machine: their code, and how it is made of the model's. Plain definitions.
The abstract machine's memory, and when the model's memory is one that it stands for.
What an operation of the abstract machine does. Plain definitions.
The abstract machine. Plain definitions.
Short names for frequent operations, so that the printed functions take less room. Plain definitions.
A few definitions of the abstract machine, apart from what is proved of them. Plain definitions.
Numbers brought back into their kind, with less work for the kernel. Plain laws. -/
import GoSem.Core.World
import GoSem.Core.Code
import GoSem.Core.Region
import GoSem.Core.View
import GoSem.Core.Layout
import GoSem.Dispatch
import Derived.Laws.Sem
namespace Go.Proofs.YteiiblpnegjjlaaGreat.D

/-- A store by numbers. -/
inductive Tr (α : Type) where
  | lf : Tr α
  | nd (l : Tr α) (v : Option α) (r : Tr α) : Tr α

namespace Tr
variable {α : Type}

noncomputable def get (t : Tr α) : Nat → Option α :=
  Tr.rec (motive := fun _ => Nat → Option α) (fun _ => none)
    (fun _ v _ gl gr k => match k with
      | 0 => v
      | k + 1 => match Nat.beq (k % 2) 0 with
        | true => gl (k / 2)
        | false => gr (k / 2)) t

theorem get_lf (k : Nat) : (Tr.lf : Tr α).get k = none := rfl
theorem get_nd_zero (l : Tr α) (v : Option α) (r : Tr α) : (Tr.nd l v r).get 0 = v := rfl
theorem get_nd_succ (l : Tr α) (v : Option α) (r : Tr α) (k : Nat) : (Tr.nd l v r).get (k + 1) = match Nat.beq (k % 2) 0 with | true => l.get (k / 2) | false => r.get (k / 2) := rfl

/-- A store of one. -/
noncomputable def one (v : Option α) (n : Nat) : Nat → Tr α :=
  Nat.rec (motive := fun _ => Nat → Tr α) (fun _ => .lf)
    (fun _ ih k => match k with
      | 0 => .nd .lf v .lf
      | k + 1 => match Nat.beq (k % 2) 0 with
        | true => .nd (ih (k / 2)) none .lf
        | false => .nd .lf none (ih (k / 2))) n

theorem one_zero (v : Option α) (n : Nat) : one v (n + 1) 0 = .nd .lf v .lf := rfl
theorem one_succ (v : Option α) (n k : Nat) : one v (n + 1) (k + 1) = match Nat.beq (k % 2) 0 with | true => .nd (one v n (k / 2)) none .lf | false => .nd .lf none (one v n (k / 2)) := rfl

noncomputable def put (v : Option α) (t : Tr α) : Nat → Tr α :=
  Tr.rec (motive := fun _ => Nat → Tr α) (fun k => one v (k + 1) k)
    (fun l x r pl pr k => match k with
      | 0 => .nd l v r
      | k + 1 => match Nat.beq (k % 2) 0 with
        | true => .nd (pl (k / 2)) x r
        | false => .nd l x (pr (k / 2))) t

theorem put_lf (v : Option α) (k : Nat) : put v .lf k = one v (k + 1) k := rfl
theorem put_nd_zero (v : Option α) (l : Tr α) (x : Option α) (r : Tr α) : put v (.nd l x r) 0 = .nd l v r := rfl
theorem put_nd_succ (v : Option α) (l : Tr α) (x : Option α) (r : Tr α) (k : Nat) : put v (.nd l x r) (k + 1) = match Nat.beq (k % 2) 0 with | true => .nd (put v l (k / 2)) x r | false => .nd l x (put v r (k / 2)) := rfl

noncomputable def set (t : Tr α) (k : Nat) (v : α) : Tr α := put (some v) t k
noncomputable def unset (t : Tr α) (k : Nat) : Tr α := put none t k

theorem beq_mod (k : Nat) : Nat.beq (k % 2) 0 = decide (k % 2 = 0) := by
  rcases Nat.mod_two_eq_zero_or_one k with h | h <;> rw [h] <;> rfl

theorem get_one (v : Option α) : ∀ (n k j : Nat), k < n → (one v n k).get j = if j = k then v else none := by
  intro n
  induction n with
  | zero => intro k j h; omega
  | succ n ih =>
    intro k j h
    cases k with
    | zero => cases j with
      | zero => rfl
      | succ j =>
        rw [if_neg (by omega)]
        simp only [one_zero, get_nd_succ]
        split <;> rfl
    | succ k =>
      have hk : k / 2 < n := by omega
      simp only [one_succ, beq_mod]
      by_cases hp : k % 2 = 0
      · simp only [hp, decide_true]
        cases j with
        | zero => rw [get_nd_zero, if_neg (by omega)]
        | succ j =>
          simp only [get_nd_succ, beq_mod]
          by_cases hj : j % 2 = 0
          · simp only [hj, decide_true]
            rw [ih _ _ hk]
            by_cases e : j / 2 = k / 2
            · rw [if_pos e, if_pos (by omega)]
            · rw [if_neg e, if_neg (by omega)]
          · simp only [hj, decide_false]
            rw [get_lf, if_neg (by omega)]
      · simp only [hp, decide_false]
        cases j with
        | zero => rw [get_nd_zero, if_neg (by omega)]
        | succ j =>
          simp only [get_nd_succ, beq_mod]
          by_cases hj : j % 2 = 0
          · simp only [hj, decide_true]
            rw [get_lf, if_neg (by omega)]
          · simp only [hj, decide_false]
            rw [ih _ _ hk]
            by_cases e : j / 2 = k / 2
            · rw [if_pos e, if_pos (by omega)]
            · rw [if_neg e, if_neg (by omega)]

theorem get_put (v : Option α) : ∀ (t : Tr α) (k j : Nat), (put v t k).get j = if j = k then v else t.get j := by
  intro t
  induction t with
  | lf => intro k j; rw [put_lf, get_one v _ _ _ (by omega), get_lf]
  | nd l x r ihl ihr =>
    intro k j
    cases k with
    | zero => cases j with
      | zero => rfl
      | succ j => rw [if_neg (by omega)]; rfl
    | succ k =>
      simp only [put_nd_succ, beq_mod]
      by_cases hp : k % 2 = 0
      · simp only [hp, decide_true]
        cases j with
        | zero => rw [get_nd_zero, if_neg (by omega)]; rfl
        | succ j =>
          simp only [get_nd_succ, beq_mod]
          by_cases hj : j % 2 = 0
          · simp only [hj, decide_true]
            rw [ihl]
            by_cases e : j / 2 = k / 2
            · rw [if_pos e, if_pos (by omega)]
            · rw [if_neg e, if_neg (by omega)]
          · simp only [hj, decide_false]
            rw [if_neg (by omega)]
      · simp only [hp, decide_false]
        cases j with
        | zero => rw [get_nd_zero, if_neg (by omega)]; rfl
        | succ j =>
          simp only [get_nd_succ, beq_mod]
          by_cases hj : j % 2 = 0
          · simp only [hj, decide_true]
            rw [if_neg (by omega)]
          · simp only [hj, decide_false]
            rw [ihr]
            by_cases e : j / 2 = k / 2
            · rw [if_pos e, if_pos (by omega)]
            · rw [if_neg e, if_neg (by omega)]

theorem get_set (t : Tr α) (k j : Nat) (v : α) : (t.set k v).get j = if j = k then some v else t.get j := get_put _ _ _ _
theorem get_unset (t : Tr α) (k j : Nat) : (t.unset k).get j = if j = k then none else t.get j := get_put _ _ _ _
end Tr

/-- Abstract values. -/
inductive AV where
  | bool (b : Bool)
  | int (k : IntKind) (n : Int)
  | str (s : ByteArray)
  | ptr (b o : Nat)
  | nilPtr
  | slice (b o len cap : Nat) (loose : Bool)
  | nilSlice
  | tail (b o adv : Nat)
  | map (r : Nat)
  | nilMap
  | fn (f : Fn) (first captured : List AV)
  | yld (r : Nat)
  | nilFn
  | iface (t : TypeId) (v : AV)
  | nilIface
  | agg (l : List AV)
  | tup (l : List AV)
  | raw (v : Value)

/-- Where abstract blocks lie, and by how many elements their capacity is greater than told. -/
abbrev Place := Nat → Option (Nat × Nat)

def Fn.plain : Fn → Bool
  | .yield _ => false
  | _ => true

/-- May a value be left as it is, unread? -/
def rawOk : Value → Bool
  | .agg _ | .tuple _ => false
  | _ => true

mutual
/-- The value that an abstract one stands for. -/
def conc (μ : Place) : AV → Option Value
  | .bool b => some (.bool b)
  | .int k n => some (.int k n)
  | .str s => some (.string s)
  | .ptr b o => (μ b).map fun p => .pointer (some ⟨p.1, o, none⟩)
  | .nilPtr => some (.pointer none)
  | .slice b o len cap loose => (μ b).map fun p => .slice (some ⟨p.1, o, none⟩) len (if loose then cap + p.2 else cap)
  | .nilSlice => some (.slice none 0 0)
  | .tail b o adv => (μ b).map fun p => .slice (some ⟨p.1, if p.2 = 0 then o else o + adv, none⟩) 0 p.2
  | .map r => (μ r).map fun p => .map (some p.1)
  | .nilMap => some (.map none)
  | .fn f first captured => if Fn.plain f then
      (concs μ first).bind fun x => (concs μ captured).map fun y => .func f x.toArray y.toArray else none
  | .yld r => (μ r).map fun p => .func (.yield p.1) #[] #[]
  | .nilFn => some .nilFunc
  | .iface t v => (conc μ v).map fun x => .iface t x
  | .nilIface => some .nilIface
  | .agg l => (concs μ l).map fun x => .agg x.toArray
  | .tup l => (concs μ l).map fun x => .tuple x.toArray
  | .raw v => some v
def concs (μ : Place) : List AV → Option (List Value)
  | [] => some []
  | v :: r => (conc μ v).bind fun x => (concs μ r).map fun y => x :: y
end

def Place.le (μ ν : Place) : Prop := ∀ b p, μ b = some p → ν b = some p
theorem Place.le_refl (μ : Place) : μ.le μ := fun _ _ h => h
theorem Place.le_trans {a b c : Place} (h : a.le b) (k : b.le c) : a.le c := fun x p e => k x p (h x p e)

mutual
theorem conc_mono {μ ν : Place} (h : μ.le ν) : ∀ (v : AV) (x : Value), conc μ v = some x → conc ν v = some x
  | .bool _, _, e => e
  | .int _ _, _, e => e
  | .str _, _, e => e
  | .nilPtr, _, e => e
  | .nilSlice, _, e => e
  | .nilMap, _, e => e
  | .nilFn, _, e => e
  | .nilIface, _, e => e
  | .raw _, _, e => e
  | .ptr b o, x, e => by
    simp only [conc, Option.map_eq_some_iff] at e ⊢
    obtain ⟨p, hp, e⟩ := e; exact ⟨p, h _ _ hp, e⟩
  | .slice b o l c z, x, e => by
    simp only [conc, Option.map_eq_some_iff] at e ⊢
    obtain ⟨p, hp, e⟩ := e; exact ⟨p, h _ _ hp, e⟩
  | .tail b o a, x, e => by
    simp only [conc, Option.map_eq_some_iff] at e ⊢
    obtain ⟨p, hp, e⟩ := e; exact ⟨p, h _ _ hp, e⟩
  | .map r, x, e => by
    simp only [conc, Option.map_eq_some_iff] at e ⊢
    obtain ⟨p, hp, e⟩ := e; exact ⟨p, h _ _ hp, e⟩
  | .yld r, x, e => by
    simp only [conc, Option.map_eq_some_iff] at e ⊢
    obtain ⟨p, hp, e⟩ := e; exact ⟨p, h _ _ hp, e⟩
  | .fn f a c, x, e => by
    simp only [conc] at e ⊢
    split at e
    · rename_i hf
      rw [if_pos hf]
      simp only [Option.bind_eq_some_iff, Option.map_eq_some_iff] at e ⊢
      obtain ⟨y, hy, z, hz, e⟩ := e
      exact ⟨y, concs_mono h a y hy, z, concs_mono h c z hz, e⟩
    · cases e
  | .iface t v, x, e => by
    simp only [conc, Option.map_eq_some_iff] at e ⊢
    obtain ⟨y, hy, e⟩ := e; exact ⟨y, conc_mono h v y hy, e⟩
  | .agg l, x, e => by
    simp only [conc, Option.map_eq_some_iff] at e ⊢
    obtain ⟨y, hy, e⟩ := e; exact ⟨y, concs_mono h l y hy, e⟩
  | .tup l, x, e => by
    simp only [conc, Option.map_eq_some_iff] at e ⊢
    obtain ⟨y, hy, e⟩ := e; exact ⟨y, concs_mono h l y hy, e⟩
theorem concs_mono {μ ν : Place} (h : μ.le ν) : ∀ (l : List AV) (x : List Value), concs μ l = some x → concs ν l = some x
  | [], _, e => e
  | v :: r, x, e => by
    simp only [concs, Option.bind_eq_some_iff, Option.map_eq_some_iff] at e ⊢
    obtain ⟨y, hy, z, hz, e⟩ := e
    exact ⟨y, conc_mono h v y hy, z, concs_mono h r z hz, e⟩
end

theorem concs_length {μ : Place} : ∀ {l : List AV} {x : List Value}, concs μ l = some x → x.length = l.length
  | [], x, e => by simp only [concs, Option.some.injEq] at e; subst e; rfl
  | v :: r, x, e => by
    simp only [concs, Option.bind_eq_some_iff, Option.map_eq_some_iff] at e
    obtain ⟨y, _, z, hz, rfl⟩ := e
    simp [concs_length hz]

theorem concs_get {μ : Place} : ∀ {l : List AV} {x : List Value}, concs μ l = some x → ∀ (i : Nat) (v : AV), l[i]? = some v → ∃ c, x[i]? = some c ∧ conc μ v = some c
  | [], _, _, i, v, h => by simp at h
  | v :: r, x, e, i, u, h => by
    simp only [concs, Option.bind_eq_some_iff, Option.map_eq_some_iff] at e
    obtain ⟨y, hy, z, hz, rfl⟩ := e
    cases i with
    | zero => simp only [List.getElem?_cons_zero, Option.some.injEq] at h; subst h; exact ⟨y, by simp, hy⟩
    | succ i => simp only [List.getElem?_cons_succ] at h; obtain ⟨c, hc, h'⟩ := concs_get hz i u h; exact ⟨c, by simpa using hc, h'⟩

theorem concs_get' {μ : Place} : ∀ {l : List AV} {x : List Value}, concs μ l = some x → ∀ (i : Nat) (c : Value), x[i]? = some c → ∃ v, l[i]? = some v ∧ conc μ v = some c := by
  intro l x h i c hc
  have hlt : i < l.length := by rw [← concs_length h]; exact (List.getElem?_eq_some_iff.1 hc).1
  obtain ⟨c', h1, h2⟩ := concs_get h i l[i] (List.getElem?_eq_getElem hlt)
  rw [hc] at h1; cases h1
  exact ⟨_, List.getElem?_eq_getElem hlt, h2⟩

theorem concs_append {μ : Place} : ∀ {l m : List AV} {x y : List Value}, concs μ l = some x → concs μ m = some y → concs μ (l ++ m) = some (x ++ y)
  | [], m, x, y, e, f => by simp only [concs, Option.some.injEq] at e; subst e; simpa using f
  | v :: r, m, x, y, e, f => by
    simp only [concs, Option.bind_eq_some_iff, Option.map_eq_some_iff] at e
    obtain ⟨u, hu, z, hz, rfl⟩ := e
    simp only [List.cons_append, concs, Option.bind_eq_some_iff, Option.map_eq_some_iff]
    exact ⟨u, hu, _, concs_append hz f, rfl⟩

theorem concs_take {μ : Place} : ∀ {l : List AV} {x : List Value}, concs μ l = some x → ∀ n, concs μ (l.take n) = some (x.take n)
  | [], x, e, n => by simp only [concs, Option.some.injEq] at e; subst e; simp [concs]
  | v :: r, x, e, n => by
    simp only [concs, Option.bind_eq_some_iff, Option.map_eq_some_iff] at e
    obtain ⟨u, hu, z, hz, rfl⟩ := e
    cases n with
    | zero => simp [concs]
    | succ n => simp only [List.take_succ_cons, concs, Option.bind_eq_some_iff, Option.map_eq_some_iff]; exact ⟨u, hu, _, concs_take hz n, rfl⟩

theorem concs_drop {μ : Place} : ∀ {l : List AV} {x : List Value}, concs μ l = some x → ∀ n, concs μ (l.drop n) = some (x.drop n)
  | [], x, e, n => by simp only [concs, Option.some.injEq] at e; subst e; simp [concs]
  | v :: r, x, e, n => by
    have e' := e
    simp only [concs, Option.bind_eq_some_iff, Option.map_eq_some_iff] at e
    obtain ⟨u, hu, z, hz, rfl⟩ := e
    cases n with
    | zero => simpa using e'
    | succ n => simp only [List.drop_succ_cons]; exact concs_drop hz n

theorem concs_set {μ : Place} : ∀ {l : List AV} {x : List Value}, concs μ l = some x → ∀ (i : Nat) {v : AV} {c : Value}, conc μ v = some c → concs μ (l.set i v) = some (x.set i c)
  | [], x, e, i, v, c, h => by simp only [concs, Option.some.injEq] at e; subst e; simp [concs]
  | a :: r, x, e, i, v, c, h => by
    simp only [concs, Option.bind_eq_some_iff, Option.map_eq_some_iff] at e
    obtain ⟨u, hu, z, hz, rfl⟩ := e
    cases i with
    | zero => simp only [List.set_cons_zero, concs, Option.bind_eq_some_iff, Option.map_eq_some_iff]; exact ⟨c, h, z, hz, rfl⟩
    | succ i => simp only [List.set_cons_succ, concs, Option.bind_eq_some_iff, Option.map_eq_some_iff]; exact ⟨u, hu, _, concs_set hz i h, rfl⟩

theorem concs_replicate {μ : Place} (n : Nat) {v : AV} {c : Value} (h : conc μ v = some c) : concs μ (List.replicate n v) = some (List.replicate n c) := by
  induction n with
  | zero => simp [concs]
  | succ n ih => simp only [List.replicate_succ, concs, h, ih, Option.bind_some, Option.map_some]

/-- Is it the value of one cell? -/
def AV.cell : AV → Bool
  | .agg _ | .tup _ => false
  | .raw v => rawOk v
  | _ => true

def AV.cells : AV → List AV
  | .agg l => l
  | .raw v => v.cells.toList.map .raw
  | v => [v]

theorem concs_raw (μ : Place) : ∀ l : List Value, concs μ (l.map .raw) = some l
  | [] => rfl
  | v :: r => by simp [concs, conc, concs_raw μ r]

theorem conc_cells {μ : Place} {v : AV} {x : Value} (h : conc μ v = some x) : concs μ v.cells = some x.cells.toList := by
  cases v with
  | agg l =>
    simp only [conc, Option.map_eq_some_iff] at h
    obtain ⟨y, hy, rfl⟩ := h
    simpa [AV.cells, Value.cells] using hy
  | fn f a c =>
    have h' := h
    simp only [conc] at h
    split at h
    · simp only [Option.bind_eq_some_iff, Option.map_eq_some_iff] at h
      obtain ⟨y, _, z, _, rfl⟩ := h
      simp [AV.cells, Value.cells, concs, h']
    · cases h
  | tup l =>
    have h' := h
    simp only [conc, Option.map_eq_some_iff] at h
    obtain ⟨y, _, rfl⟩ := h
    simp [AV.cells, Value.cells, concs, h']
  | raw v =>
    simp only [conc, Option.some.injEq] at h
    subst h
    exact concs_raw μ _
  | _ =>
    have h' := h
    simp only [conc, Option.map_eq_some_iff, Option.some.injEq] at h
    first
      | (subst h; simp [AV.cells, Value.cells, concs, conc])
      | (obtain ⟨p, _, rfl⟩ := h; simp [AV.cells, Value.cells, concs, h'])

theorem conc_cell {μ : Place} {v : AV} {x : Value} (h : conc μ v = some x) (hc : v.cell = true) : ∀ l, x ≠ .agg l ∧ x ≠ .tuple l := by
  intro l
  cases v with
  | agg l => simp [AV.cell] at hc
  | tup l => simp [AV.cell] at hc
  | raw v =>
    simp only [conc, Option.some.injEq] at h
    subst h
    cases v <;> first | (simp [AV.cell, rawOk] at hc; done) | exact ⟨by simp, by simp⟩
  | fn f a c =>
    simp only [conc] at h
    split at h
    · simp only [Option.bind_eq_some_iff, Option.map_eq_some_iff] at h
      obtain ⟨y, _, z, _, rfl⟩ := h
      exact ⟨by simp, by simp⟩
    · cases h
  | _ =>
    simp only [conc, Option.map_eq_some_iff, Option.some.injEq] at h
    first
      | (subst h; exact ⟨by simp, by simp⟩)
      | (obtain ⟨p, _, rfl⟩ := h; exact ⟨by simp, by simp⟩)
end Go.Proofs.YteiiblpnegjjlaaGreat.D
namespace Go.Proofs.YteiiblpnegjjlaaGreat.D

/-- An operand. -/
inductive X where
  | t (n : Nat)
  | c (v : AV)

def absL : Value → Option AV
  | .bool b => some (.bool b)
  | .int k n => some (.int k n)
  | .string s => some (.str s)
  | .pointer none => some .nilPtr
  | .slice none 0 0 => some .nilSlice
  | .map none => some .nilMap
  | .nilFunc => some .nilFn
  | .nilIface => some .nilIface
  | _ => none

def absLs : List Value → Option (List AV)
  | [] => some []
  | v :: r => match absL v with
    | some a => match absLs r with
      | some l => some (a :: l)
      | none => none
    | none => none

/-- The abstract value of a constant. -/
def absV : Value → Option AV
  | .agg cs => (absLs cs.toList).map .agg
  | .iface t v => (absL v).map (.iface t)
  | .func (.func f) a b => if a.isEmpty && b.isEmpty then some (.fn (.func f) [] []) else none
  | v => absL v

theorem absL_conc {v : Value} {a : AV} (h : absL v = some a) (μ : Place) : conc μ a = some v := by
  unfold absL at h
  split at h <;> first | (cases h; rfl) | cases h

theorem absLs_conc (μ : Place) : ∀ {l : List Value} {a : List AV}, absLs l = some a → concs μ a = some l
  | [], a, h => by simp only [absLs, Option.some.injEq] at h; subst h; rfl
  | v :: r, a, h => by
    unfold absLs at h
    split at h
    · rename_i x hx
      split at h
      · rename_i y hy
        cases h
        simp only [concs, absL_conc hx μ, absLs_conc μ hy, Option.bind_some, Option.map_some]
      · cases h
    · cases h

theorem absV_conc {v : Value} {a : AV} (h : absV v = some a) (μ : Place) : conc μ a = some v := by
  unfold absV at h
  split at h
  · rename_i cs
    simp only [Option.map_eq_some_iff] at h
    obtain ⟨l, hl, rfl⟩ := h
    simp only [conc, absLs_conc μ hl, Option.map_some]
  · simp only [Option.map_eq_some_iff] at h
    obtain ⟨l, hl, rfl⟩ := h
    simp only [conc, absL_conc hl μ, Option.map_some]
  · rename_i f x y
    split at h
    · rename_i e
      cases h
      have e1 : x = #[] := by simp at e; exact e.1
      have e2 : y = #[] := by simp at e; exact e.2
      subst e1; subst e2
      simp [conc, Fn.plain, concs]
    · cases h
  · exact absL_conc h μ

def prepX : Operand → Option X
  | .tmp t => some (.t t)
  | .const v => (absV v).map .c
  | .func f => some (.c (.fn (.func f) [] []))
  | .global _ => none

def prepXs : List Operand → Option (List X)
  | [] => some []
  | x :: r => match prepX x with
    | some a => match prepXs r with
      | some l => some (a :: l)
      | none => none
    | none => none

/-- How two values of a type are held against one another. -/
inductive EqK where
  | leaf
  | ptr
  | slice
  | map
  | func
  | iface
  | cells (ks : List Nat)
  | no

/-- A map's keys: whole numbers. -/
inductive POp where
  | move (x : X)
  | pick (c a b : X)
  | alloc (zero : List AV)
  | box (x : X)
  | build (zero : List AV) (parts : List (Nat × Nat × X))
  | buildSlice (cells : List AV) (len : Nat) (parts : List (Nat × Nat × X)) (esz : Nat)
  | load1 (a : X)
  | loadN (n : Nat) (a : X)
  | store (n : Nat) (a v : X)
  | nilCheck (x : X)
  | bin (op : BinOp) (e : EqK) (x y : X)
  | un (op : UnOp) (x : X)
  | convInt (k : IntKind) (x : X)
  | convSame (x : X)
  | convStr (esz : Nat) (x : X)
  | convBytes (x : X)
  | mkIface (t : TypeId) (x : X)
  | mkFunc (f : Fn) (first captured : List X)
  | mkMap
  | mkSlice (esz ebytes : Nat) (zero : List AV) (l c : X)
  | sliceSl (esz : Nat) (x : X) (lo hi mx : Option X)
  | sliceStr (x : X) (lo hi : Option X)
  | sliceArr (n esz : Nat) (x : X) (lo hi mx : Option X)
  | fieldAddr (off : Nat) (x : X)
  | field (off : Nat) (n : Option Nat) (x : X)
  | idxArr (len esz : Nat) (x i : X)
  | idxSl (esz : Nat) (x i : X)
  | idxAgg (len esz : Nat) (agg : Bool) (x i : X)
  | idxStr (x i : X)
  | lookup (zero : AV) (m k : X) (ok : Bool)
  | mapUpd (m k v : X)
  | range (x : X)
  | next (x : X)
  | entry (x : X)
  | extract (x : X) (i : Nat)
  | call (f : X) (args : List X)
  | append (esz ebytes : Nat) (zero : List AV) (s x : X)
  | appendN (esz ebytes : Nat) (zero : List AV) (s x : X)
  | copy (esz : Nat) (d s : X)
  | len (k : Nat) (x : X)
  | lenArr (n : Nat)
  | cap (x : X)
  | minmax (mx : Bool) (l : List X)
  | clear (zero : List AV) (x : X)
  | clearMap (x : X)
  | delete (m k : X)
  | fail

section
variable (P : Program)

def isAggB (t : TypeId) : Option Bool :=
  match P.underlying t with
  | some (.struct _) | some (.array _ _) => some true
  | some _ => some false
  | none => none

def sizeB (t : TypeId) : Option Nat := (P.info? t).map (·.size)
def bytesB (t : TypeId) : Option Nat := (P.info? t).map (·.bytes)
/-- The cells of a type's zero value. -/
def zeroB (t : TypeId) : Option (List AV) :=
  match (P.info? t).bind (·.zero) with
  | some v => absLs v.cells.toList
  | none => none
def zeroV (t : TypeId) : Option AV :=
  match (P.info? t).bind (·.zero) with
  | some v => absV v
  | none => none

def isIntKey (t : TypeId) : Bool := match P.underlying t with | some (.int _) => true | _ => false

/-- Is a type one whose values are held against one another cell by cell, each a number, a bool or a text? With its cells' kinds. -/
def flat : Nat → TypeId → Option (List Nat)
  | 0, _ => none
  | d + 1, t => match P.underlying t with
    | some .bool => some [0]
    | some (.int _) => some [1]
    | some .string => some [2]
    | some (.struct fs) =>
      if P.stoodInHeld t then none else
      fs.toList.foldl (fun acc f => match acc with
        | none => none
        | some l => if f.name ≠ "_" && f.offset == l.length then
            match flat d f.type, (P.info? f.type).map (·.size) with
            | some m, some s => if s == m.length then some (l ++ m) else none
            | _, _ => none
          else none) (some [])
    | some (.array n e) =>
      match flat d e, (P.info? e).map (·.size) with
      | some m, some s => if s == m.length then some ((List.replicate n m).flatten) else none
      | _, _ => none
    | _ => none

def isC : Operand → Bool
  | .const _ => true
  | _ => false

def eqK (t : TypeId) (x y : Operand) : EqK :=
  match P.underlying t with
  | some .bool => .leaf
  | some (.pointer _) => .ptr
  | some (.slice _) => .slice
  | some (.map _ _) => .map
  | some (.func _ _ _) => .func
  | some (.interface _) => if isC x || isC y then .iface else .no
  | some (.struct _) | some (.array _ _) =>
    if P.eqGuardType P.depth t then .no else
    match flat P 12 t with
    | some l => .cells l
    | none => .no
  | _ => .no

def fieldOf (t : TypeId) (i : Nat) : Option Field :=
  match P.underlying t with
  | some (.struct fs) => fs[i]?
  | _ => none

def prepParts (place : Nat → Option (Nat × Nat)) : List (Nat × Operand) → Option (List (Nat × Nat × X))
  | [] => some []
  | (i, o) :: r => match place i, prepX o, prepParts place r with
    | some (off, size), some x, some l => some ((off, size, x) :: l)
    | _, _, _ => none

def fieldPlaces (fs : Array Field) : Option (List (Nat × Nat)) :=
  fs.toList.foldr (fun f acc => match sizeB P f.type, acc with
    | some s, some l => some ((f.offset, s) :: l)
    | _, _ => none) (some [])

def optX : Option Operand → Option (Option X)
  | none => some none
  | some o => (prepX o).map some

def isIntD : TypeDesc → Bool
  | .int _ => true
  | _ => false

def prepAppend : List TypeId → List X → Option POp
  | [s, xt], [a, x] => match P.underlying s with
    | some (.slice e) => match P.underlying xt with
      | none => none
      | some d => match sizeB P e, bytesB P e, zeroB P e with
        | some sz, some by', some z => if 1 ≤ sz && z.length == sz && 1 ≤ by' then some (if isIntD d then .appendN sz by' z a x else .append sz by' z a x) else none
        | _, _, _ => none
    | _ => none
  | _, _ => none

def prepCopy : List TypeId → List X → Option POp
  | [d, _], [a, x] => match P.underlying d with
    | some (.slice e) => match sizeB P e with
      | some sz => some (.copy sz a x)
      | none => none
    | _ => none
  | _, _ => none

/-- 0: of a text; 1: of a slice; 2: of a map. -/
def prepLen : List TypeId → List X → Option POp
  | [t], [x] => match P.underlying t with
    | some (.array n _) => some (.lenArr n)
    | some (.pointer e) => match P.underlying e with
      | some (.array n _) => some (.lenArr n)
      | _ => none
    | some .string => some (.len 0 x)
    | some (.slice _) => some (.len 1 x)
    | some (.map _ _) => some (.len 2 x)
    | _ => none
  | _, _ => none

def prepCap : List TypeId → List X → Option POp
  | [t], [x] => match P.underlying t with
    | some (.slice _) => some (.cap x)
    | _ => none
  | _, _ => none

def prepClear : List TypeId → List X → Option POp
  | [t], [x] => match P.underlying t with
    | some (.slice e) => match zeroB P e with
      | some z => some (.clear z x)
      | none => none
    | some (.map _ _) => some (.clearMap x)
    | _ => none
  | _, _ => none

def prepDelete : List TypeId → List X → Option POp
  | [t, _], [m, k] => match P.underlying t with
    | some (.map kt _) => if isIntKey P kt then some (.delete m k) else none
    | _ => none
  | _, _ => none

def prepBuiltin (b : Builtin) (argTypes : List TypeId) (args : List X) : Option POp :=
  match b with
  | .append => prepAppend P argTypes args
  | .copy => prepCopy P argTypes args
  | .len => prepLen P argTypes args
  | .cap => prepCap P argTypes args
  | .min => some (.minmax false args)
  | .max => some (.minmax true args)
  | .clear => prepClear P argTypes args
  | .delete => prepDelete P argTypes args
  | _ => none

def prepOp (o : Oper) : Option POp :=
  match o.op with
  | .move x | .assign x => (prepX x).map .move
  | .pick c a b => match prepX c, prepX a, prepX b with
    | some c, some a, some b => some (.pick c a b)
    | _, _, _ => none
  | .alloc e => (zeroB P e).map .alloc
  | .box _ x => (prepX x).map .box
  | .build t parts => match P.underlying t, zeroB P t with
    | some (.struct fs), some z => match fieldPlaces P fs with
      | some pl => (prepParts (pl[·]?) parts.toList).map (.build z)
      | none => none
    | some (.array _ e), some z => match sizeB P e with
      | some s => (prepParts (fun i => some (i * s, s)) parts.toList).map (.build z)
      | none => none
    | _, _ => none
  | .buildSlice t n parts => match P.underlying t with
    | some (.slice e) => match sizeB P e, zeroB P e with
      | some s, some z => if s == z.length && n * s ≤ 2 ^ 24 then
          (prepParts (fun i => some (i * s, s)) parts.toList).map fun l => .buildSlice (List.replicate n z).flatten n l s
        else none
      | _, _ => none
    | _ => none
  | .load t a => match isAggB P t, sizeB P t, prepX a with
    | some true, some n, some a => some (.loadN n a)
    | some false, _, some a => some (.load1 a)
    | _, _, _ => none
  | .store t a v => match sizeB P t, prepX a, prepX v with
    | some n, some a, some v => some (.store n a v)
    | _, _, _ => none
  | .nilCheck x => (prepX x).map .nilCheck
  | .binOp op t x y _ => match prepX x, prepX y with
    | some a, some b => some (.bin op (eqK P t x y) a b)
    | _, _ => none
  | .unOp op _ x => (prepX x).map (.un op)
  | .convert s d x => match P.underlying s, P.underlying d, prepX x with
    | some (.int _), some (.int k), some x => some (.convInt k x)
    | some .string, some .string, some x => some (.convSame x)
    | some .string, some (.slice e), some x => match P.underlying e, sizeB P e with
      | some (.int .u8), some 1 => some (.convStr 1 x)
      | _, _ => none
    | some (.slice e), some .string, some x => match P.underlying e with
      | some (.int .u8) => some (.convBytes x)
      | _ => none
    | _, _, _ => none
  | .makeInterface t x => match P.underlying t, prepX x with
    | some (.interface _), _ => none
    | some _, some x => some (.mkIface t x)
    | _, _ => none
  | .makeFunc f a c => if Fn.plain f then match prepXs a.toList, prepXs c.toList with
      | some a, some c => some (.mkFunc f a c)
      | _, _ => none
    else none
  | .makeMap _ none => some .mkMap
  | .makeSlice t l c => match P.underlying t with
    | some (.slice e) => match sizeB P e, bytesB P e, zeroB P e, prepX l, prepX c with
      | some s, some b, some z, some l, some c => if s == z.length then some (.mkSlice s b z l c) else none
      | _, _, _, _, _ => none
    | _ => none
  | .slice t x lo hi mx => match P.underlying t, prepX x, optX lo, optX hi, optX mx with
    | some .string, some x, some lo, some hi, some none => some (.sliceStr x lo hi)
    | some (.slice e), some x, some lo, some hi, some mx => (sizeB P e).map fun s => .sliceSl s x lo hi mx
    | some (.pointer a), some x, some lo, some hi, some mx => match P.underlying a with
      | some (.array n e) => (sizeB P e).map fun s => .sliceArr n s x lo hi mx
      | _ => none
    | some (.array n e), some x, some lo, some hi, some mx => (sizeB P e).map fun s => .sliceArr n s x lo hi mx
    | _, _, _, _, _ => none
  | .fieldAddr s x i => match fieldOf P s i, prepX x with
    | some f, some x => match sizeB P f.type with
      | some n => if n = 0 then none else some (.fieldAddr f.offset x)
      | none => none
    | _, _ => none
  | .field s x i => match fieldOf P s i, prepX x with
    | some f, some x => match isAggB P f.type, sizeB P f.type with
      | some true, some n => some (.field f.offset (some n) x)
      | some false, _ => some (.field f.offset none x)
      | _, _ => none
    | _, _ => none
  | .indexAddr t x i => match P.underlying t, prepX x, prepX i with
    | some (.array n e), some x, some i => (sizeB P e).map fun s => .idxArr n s x i
    | some (.slice e), some x, some i => (sizeB P e).map fun s => .idxSl s x i
    | _, _, _ => none
  | .index t x i => match P.underlying t, prepX x, prepX i with
    | some (.array n e), some x, some i => match isAggB P e, sizeB P e with
      | some b, some s => some (.idxAgg n s b x i)
      | _, _ => none
    | some .string, some x, some i => some (.idxStr x i)
    | _, _, _ => none
  | .lookup t m k ok => match P.underlying t with
    | some (.map kt e) => if isIntKey P kt then match zeroV P e, prepX m, prepX k with
        | some z, some m, some k => some (.lookup z m k ok)
        | _, _, _ => none
      else none
    | _ => none
  | .mapUpdate t m k v => match P.underlying t with
    | some (.map kt _) => if isIntKey P kt then match prepX m, prepX k, prepX v with
        | some m, some k, some v => some (.mapUpd m k v)
        | _, _, _ => none
      else none
    | _ => none
  | .range t x => match P.underlying t with
    | some (.map _ _) => (prepX x).map .range
    | _ => none
  | .next x isString => if isString then none else (prepX x).map .next
  | .entry x => (prepX x).map .entry
  | .extract x i => (prepX x).map fun x => .extract x i
  | .call c => match c.callee with
    | .value f => match prepXs c.args.toList with
      | some args => (prepX f).map fun f => .call f args
      | none => none
    | .builtin b => match prepXs c.args.toList with
      | some args => prepBuiltin P b c.argTypes.toList args
      | none => none
    | _ => none
  | _ => none
end
end Go.Proofs.YteiiblpnegjjlaaGreat.D
namespace Go.Proofs.YteiiblpnegjjlaaGreat.D

/-- An operation in its place: where its value goes, and under which test it is carried out. -/
structure PO where
  dst : Option Nat
  op : POp
  guard : Option (Nat × Bool)

/-- What is looked at behind a region whose order is open: at which operation, and ahead of which great ones it may come. -/
structure Look where
  at_ : Nat
  cs : List Nat

inductive PC where
  | skip
  | region (ops : List PO)
  | drawn (ops : List PO) (looks : List Look)
  | seq (a b : PC)
  | cond (c : X) (a b : PC)
  | block (id : Nat) (a : PC)
  | loop (a : PC)
  | rangeF (f : X) (params : List Nat) (assign body : PC)
  | exit (id : Nat)
  | ret

/-- How a piece of code is left. -/
inductive AExit where
  | normal
  | exit (id : Nat)
  | ret

inductive PRes where
  | tmp (t : Nat)
  | cell1 (t : Nat)
  | cellN (n t : Nat)

structure FD where
  ntmps : Nat
  results : List PRes
  body : PC

def xuse : X → List Nat
  | .t n => [n]
  | .c _ => []
def ouse : Option X → List Nat
  | some x => xuse x
  | none => []

/-- The operands of an operation. -/
def POp.xs : POp → List X
  | .move x | .box x | .load1 x | .loadN _ x | .nilCheck x | .un _ x | .convInt _ x | .convSame x | .convStr _ x | .convBytes x
  | .mkIface _ x | .fieldAddr _ x | .field _ _ x | .range x | .next x | .entry x | .extract x _ | .len _ x | .cap x | .clear _ x | .clearMap x => [x]
  | .pick c a b => [c, a, b]
  | .alloc _ | .mkMap | .lenArr _ | .fail => []
  | .build _ ps => ps.map (·.2.2)
  | .buildSlice _ _ ps _ => ps.map (·.2.2)
  | .store _ a v => [a, v]
  | .bin _ _ x y => [x, y]
  | .mkFunc _ a c => a ++ c
  | .mkSlice _ _ _ l c => [l, c]
  | .sliceSl _ x lo hi mx => x :: (lo.toList ++ hi.toList ++ mx.toList)
  | .sliceStr x lo hi => x :: (lo.toList ++ hi.toList)
  | .sliceArr _ _ x lo hi mx => x :: (lo.toList ++ hi.toList ++ mx.toList)
  | .idxArr _ _ x i | .idxSl _ x i | .idxAgg _ _ _ x i | .idxStr x i => [x, i]
  | .lookup _ m k _ => [m, k]
  | .mapUpd m k v => [m, k, v]
  | .call f args => f :: args
  | .append _ _ _ s x | .appendN _ _ _ s x => [s, x]
  | .copy _ d s => [d, s]
  | .minmax _ l => l
  | .delete m k => [m, k]

def POp.uses (p : POp) : List Nat := p.xs.flatMap xuse

/-- 0: neither looks at memory nor turns it; 1: looks at it; 2: may turn it; 3: lays a block and asks nothing of memory. -/
def POp.cls : POp → Nat
  | .move _ | .pick .. | .build .. | .nilCheck _ | .bin .. | .un .. | .convInt .. | .convSame _ | .mkIface .. | .mkFunc .. | .sliceSl .. | .sliceStr .. | .sliceArr ..
  | .fieldAddr .. | .field .. | .idxArr .. | .idxSl .. | .idxAgg .. | .idxStr .. | .extract .. | .lenArr _ | .cap _ | .minmax .. => 0
  | .load1 _ | .loadN .. | .lookup .. | .convBytes _ | .len .. | .entry _ => 1
  | .alloc _ | .box _ | .buildSlice .. => 3
  | _ => 2

/-- Which operations come before one, by the edges that bind: a set as a number. -/
def befores (ops : List Oper) : List Nat :=
  ops.foldl (fun acc o => acc ++ [o.after.toList.foldl (fun s e => if Region.binds .any e then s ||| 2 ^ e.on ||| acc.getD e.on 0 else s) 0]) []

def edgesOk (ops : List Oper) : Bool :=
  ops.zipIdx.all fun (o, i) => o.after.toList.all fun e => !Region.binds .any e || Nat.blt e.on i

/-- Is an operation ahead of another one, whatever the order? -/
def ahead (bs : List Nat) (i j : Nat) : Bool := (bs.getD j 0).testBit i

def tmpsOk (ps : List PO) (bs : List Nat) : Bool :=
  ps.zipIdx.all fun (p, i) => (p.op.uses ++ (p.guard.map (·.1)).toList).all fun t =>
    ps.zipIdx.all fun (q, j) => q.dst != some t || i == j || ahead bs i j || ahead bs j i

def dstsOk (ps : List PO) : Bool :=
  ps.zipIdx.all fun (p, i) => ps.zipIdx.all fun (q, j) => i == j || p.dst.isNone || p.dst != q.dst

/-- Does it turn memory? -/
def PO.big (p : PO) : Bool := Nat.ble 2 p.op.cls

/-- What turns memory comes in its order; what only lays a block may come sooner. -/
def bigsOk (ps : List PO) (bs : List Nat) : Bool :=
  ps.zipIdx.all fun (p, i) => !p.big || ps.zipIdx.all fun (q, j) => !q.big || !Nat.blt i j || ahead bs i j || q.op.cls == 3

/-- Ahead of which great ones a look may come. -/
def spots (ps : List PO) (bs : List Nat) (i : Nat) : List Nat :=
  (List.range (ps.length + 1)).filter fun c => (match ps[c]? with | some q => q.big | none => true) &&
    ps.zipIdx.all fun (q, j) => !q.big || ((!ahead bs j i || Nat.blt j c) && (!ahead bs i j || Nat.ble c j))

/-- Is it settled which of the great ones come ahead of one? -/
def settled (ps : List PO) (bs : List Nat) (i : Nat) : Bool :=
  ps.zipIdx.all fun (q, j) => !q.big || ahead bs j i || ahead bs i j

/-- The looks that are wanted: at what reads memory, where the order leaves it open at which moment. -/
def looksOf (ps : List PO) (bs : List Nat) : List Look :=
  ps.zipIdx.filterMap fun (p, i) => if p.op.cls == 1 && !settled ps bs i then some { at_ := i, cs := spots ps bs i } else none

/-- The great ones ahead of a look are the first ones; and where its moment is open, its operands, and the test, come of what is ahead of it, and nothing behind it turns them. -/
def readsOk (ps : List PO) (bs : List Nat) : Bool :=
  ps.zipIdx.all fun (p, i) => p.op.cls != 1 ||
    ((ps.zipIdx.all fun (q, j) => !q.big || !ahead bs j i || ps.zipIdx.all fun (r, c) => !r.big || !Nat.blt c j || ahead bs c i) &&
    (settled ps bs i ||
    (p.op.uses ++ (p.guard.map (·.1)).toList).all fun t => ps.zipIdx.all fun (q, j) => q.dst != some t || ahead bs j i))

/-- All that is written lies among the temporaries. -/
def okPOs (n : Nat) : List PO → Bool
  | [] => true
  | p :: r => (match p.dst with | some d => Nat.blt d n | none => true) && okPOs n r

def okNats (n : Nat) : List Nat → Bool
  | [] => true
  | p :: r => Nat.blt p n && okNats n r

def okPC (n : Nat) : PC → Bool
  | .region ops => okPOs n ops
  | .drawn ops _ => okPOs n ops
  | .seq a b => okPC n a && okPC n b
  | .cond _ a b => okPC n a && okPC n b
  | .block _ a => okPC n a
  | .loop a => okPC n a
  | .rangeF _ params a b => okNats n params && okPC n a && okPC n b
  | _ => true

section
variable (P : Program)
def prepPO (ops : List Oper) (o : Oper) : Option PO :=
  match o.guard with
  | none => some { dst := o.dst, op := (prepOp P o).getD .fail, guard := none }
  | some (j, want) => match (ops[j]?).bind (·.dst) with
    | some t => some { dst := o.dst, op := (prepOp P o).getD .fail, guard := some (t, want) }
    | none => none

def prepPOs (ops : List Oper) : List Oper → Option (List PO)
  | [] => some []
  | o :: r => match prepPO P ops o with
    | some p => match prepPOs ops r with
      | some l => some (p :: l)
      | none => none
    | none => none

def prepC : Code → Option PC
  | .skip => some .skip
  | .region _ ops draw => match prepPOs P ops.toList ops.toList with
    | none => none
    | some ps => if draw then
        let bs := befores ops.toList
        if edgesOk ops.toList && tmpsOk ps bs && dstsOk ps && bigsOk ps bs && readsOk ps bs then some (.drawn ps (looksOf ps bs)) else none
      else some (.region ps)
  | .seq a b => match prepC a with
    | none => none
    | some x => match prepC b with
      | none => none
      | some y => some (.seq x y)
  | .cond c a b => match prepX c with
    | none => none
    | some z => match prepC a with
      | none => none
      | some x => match prepC b with
        | none => none
        | some y => some (.cond z x y)
  | .block id a => match prepC a with
    | none => none
    | some x => some (.block id x)
  | .loop a => match prepC a with
    | none => none
    | some x => some (.loop x)
  | .rangeFunc f params assign body => match prepX f with
    | none => none
    | some z => match prepC assign with
      | none => none
      | some x => match prepC body with
        | none => none
        | some y => some (.rangeF z params.toList x y)
  | .exit id => some (.exit id)
  | .ret => some .ret
  | _ => none

def prepRes : ResultVar → Option PRes
  | .tmp t => some (.tmp t)
  | .cell a t => match isAggB P t, sizeB P t with
    | some true, some n => some (.cellN n a)
    | some false, _ => some (.cell1 a)
    | _, _ => none

def prepRess : List ResultVar → Option (List PRes)
  | [] => some []
  | r :: l => match prepRes P r with
    | some x => match prepRess l with
      | some y => some (x :: y)
      | none => none
    | none => none

def prepF (f : Func) : Option FD :=
  match f.body with
  | none => none
  | some c => match prepC P c with
    | none => none
    | some b => match prepRess P f.results.toList with
      | none => none
      | some r => if f.name == "runtime.NumGoroutine" || !okPC f.ntmps b then none else some { ntmps := f.ntmps, results := r, body := b }
end
end Go.Proofs.YteiiblpnegjjlaaGreat.D
namespace Go.Proofs.YteiiblpnegjjlaaGreat.D
noncomputable section

inductive AObj where
  | cells (vs : List AV) (loose ro : Bool) (esz : Nat)
  | map (es : List (AV × AV × Nat)) (clock : Nat)
  | miter (m : Option Nat) (since : Nat) (seen : List Nat) (last : Nat)
  | siter (s : ByteArray) (pos : Nat)
  | loop (state : LoopState) (pend : AExit) (ts : Tr AV) (params : List Nat) (assign body : PC) (defers : Nat)
  | defd

structure St where
  heap : Tr (Option AObj)
  base : Nat → Option AObj
  next : Nat

def St.get (s : St) (b : Nat) : Option AObj :=
  match s.heap.get b with
  | some o => o
  | none => s.base b
def St.put (s : St) (b : Nat) (o : AObj) : St := { s with heap := s.heap.set b (some o) }
def St.drop (s : St) (b : Nat) : St := { s with heap := s.heap.set b none }
def St.new (s : St) (o : AObj) : St := { s with heap := s.heap.set s.next (some o), next := s.next + 1 }

theorem St.get_put (s : St) (b c : Nat) (o : AObj) : (s.put b o).get c = if c = b then some o else s.get c := by
  unfold St.get St.put
  simp only [Tr.get_set]
  by_cases h : c = b <;> simp [h]
theorem St.get_drop (s : St) (b c : Nat) : (s.drop b).get c = if c = b then none else s.get c := by
  unfold St.get St.drop
  simp only [Tr.get_set]
  by_cases h : c = b <;> simp [h]
theorem St.get_new (s : St) (c : Nat) (o : AObj) : (s.new o).get c = if c = s.next then some o else s.get c := by
  unfold St.get St.new
  simp only [Tr.get_set]
  by_cases h : c = s.next <;> simp [h]
@[simp] theorem St.next_put (s : St) (b : Nat) (o : AObj) : (s.put b o).next = s.next := rfl
@[simp] theorem St.next_drop (s : St) (b : Nat) : (s.drop b).next = s.next := rfl
@[simp] theorem St.next_new (s : St) (o : AObj) : (s.new o).next = s.next + 1 := rfl

def jumpCode : AExit → Option Code
  | .normal => none
  | .exit id => some (.exit id)
  | .ret => some .ret

/-- The temporaries are what they stand for. -/
def TR (μ : Place) (ts : Tr AV) (tmps : Array Value) : Prop := ∀ t v, ts.get t = some v → ∃ c, tmps[t]? = some c ∧ conc μ v = some c

theorem TR.mono {μ ν : Place} {ts : Tr AV} {tmps : Array Value} (h : TR μ ts tmps) (l : μ.le ν) : TR ν ts tmps :=
  fun t v e => let ⟨c, h1, h2⟩ := h t v e; ⟨c, h1, conc_mono l v c h2⟩

def entryR (μ : Place) (x : AV × AV × Nat) (y : MapEntry) : Prop := conc μ x.1 = some y.key ∧ conc μ x.2.1 = some y.val ∧ x.2.2 = y.born

def optR (μ : Place) : Option Nat → Option Nat → Prop
  | none, m => m = none
  | some r, m => ∃ p, μ r = some p ∧ m = some p.1

/-- Entries, one beside the other. -/
def entriesR (μ : Place) : List (AV × AV × Nat) → List MapEntry → Prop
  | [], [] => True
  | x :: l, y :: m => entryR μ x y ∧ entriesR μ l m
  | _, _ => False

theorem entriesR_mono {μ ν : Place} (h : μ.le ν) : ∀ {l : List (AV × AV × Nat)} {m : List MapEntry}, entriesR μ l m → entriesR ν l m
  | [], [], _ => trivial
  | _ :: _, _ :: _, e => ⟨⟨conc_mono h _ _ e.1.1, conc_mono h _ _ e.1.2.1, e.1.2.2⟩, entriesR_mono h e.2⟩
  | [], _ :: _, e => e.elim
  | _ :: _, [], e => e.elim

variable (P : Program)

/-- What lies in the model's block. -/
def OR (μ : Place) (w : World) (b e : Nat) : AObj → Prop
  | .cells vs loose ro esz => ∃ (c : Array Value) (elem : TypeId) (fz : Nat × Nat) (xs rest : List Value), w.heap[b]? = some (.cells c elem fz) ∧ concs μ vs = some xs ∧
      c.toList = xs ++ rest ∧ rest.length = e * esz ∧ (loose = false → e = 0) ∧ (ro = false → ∀ i, i < c.size → ¬ (fz.1 ≤ i ∧ i < fz.2))
  | .map es clock => ∃ ces : Array MapEntry, w.heap[b]? = some (.map ces clock) ∧ entriesR μ es ces.toList
  | .miter m since seen last => ∃ m', optR μ m m' ∧ w.heap[b]? = some (.mapIter m' since seen.toArray last)
  | .siter s pos => w.heap[b]? = some (.stringIter s pos)
  | .loop st pend ts params assign body d => ∃ (L : Loop) (p : Nat × Nat), w.heap[b]? = some (.loop L) ∧ L.state = st ∧ L.pending = jumpCode pend ∧ TR μ ts L.tmps ∧
      L.params.toList = params ∧ prepC P L.assign = some assign ∧ prepC P L.body = some body ∧ μ d = some p ∧ L.defers = p.1 ∧
      okNats L.tmps.size params = true ∧ okPC L.tmps.size assign = true ∧ okPC L.tmps.size body = true
  | .defd => w.heap[b]? = some (.deferred (some []))

theorem OR.mono {P : Program} {μ ν : Place} (h : μ.le ν) {w w' : World} {b e : Nat} (hw : w'.heap[b]? = w.heap[b]?) {o : AObj} (ho : OR P μ w b e o) : OR P ν w' b e o := by
  cases o with
  | cells vs l r z =>
    obtain ⟨c, el, fz, xs, rest, h1, h2, h3⟩ := ho
    exact ⟨c, el, fz, xs, rest, hw.trans h1, concs_mono h _ _ h2, h3⟩
  | map es cl => obtain ⟨ces, h1, h2⟩ := ho; exact ⟨ces, hw.trans h1, entriesR_mono h h2⟩
  | miter m s n l =>
    obtain ⟨m', h1, h2⟩ := ho
    refine ⟨m', ?_, hw.trans h2⟩
    cases m with
    | none => exact h1
    | some r => obtain ⟨p, hp, e⟩ := h1; exact ⟨p, h _ _ hp, e⟩
  | siter s p => exact hw.trans ho
  | loop st pe ts ps a bo d =>
    obtain ⟨L, p, h1, h2, h3, h5, h6, h7, h8, h9, h10⟩ := ho
    exact ⟨L, p, hw.trans h1, h2, h3, h5.mono h, h6, h7, h8, h _ _ h9, h10⟩
  | defd => exact hw.trans ho

/-- 'R': numbers from R on may be given ahead to blocks that the abstract machine lays later. -/
structure HR (R : Nat) (μ : Place) (s : St) (w : World) : Prop where
  obj : ∀ b o, s.get b = some o → ∃ p, μ b = some p ∧ OR P μ w p.1 p.2 o
  inj : ∀ b c o o' p q, s.get b = some o → s.get c = some o' → μ b = some p → μ c = some q → p.1 = q.1 → b = c
  lt : ∀ b p, μ b = some p → p.1 < w.heap.size ∧ (b < s.next ∨ R ≤ b)
  dom : ∀ b o, s.get b = some o → b < s.next

/-- Whether draws are counted. -/
def Strict : Bool := true
/-- The tape is the same, and no draw is taken back. -/
structure TapeLe (w w' : World) : Prop where
  eq : w'.tape = w.tape
  dr : Strict = true → w.drawn ≤ w'.drawn
theorem TapeLe.refl (w : World) : TapeLe w w := ⟨rfl, fun _ => Nat.le_refl _⟩
theorem TapeLe.trans {a b c : World} (k : TapeLe b c) (h : TapeLe a b) : TapeLe a c := ⟨k.eq.trans h.eq, fun hs => Nat.le_trans (h.dr hs) (k.dr hs)⟩

/-- What has become of the model's memory between two moments. -/
structure Mv (μ : Place) (s : St) (w : World) (ν : Place) (s' : St) (w' : World) : Prop where
  le : μ.le ν
  os : w'.os = w.os
  output : w'.output = w.output
  tape : TapeLe w w'
  size : w.heap.size ≤ w'.heap.size
  next : s.next ≤ s'.next
  res : ∀ b p, μ b = some p → b < s.next ∨ s'.next ≤ b
  fresh : ∀ b p, ν b = some p → μ b = some p ∨ (s.next ≤ b ∧ b < s'.next ∧ (w.heap.size ≤ p.1 ∨ ∃ c q, c < s.next ∧ μ c = some q ∧ q.1 = p.1))
  frame : ∀ k, k < w.heap.size → (∀ b p, b < s.next → μ b = some p → p.1 ≠ k) → w'.heap[k]? = w.heap[k]?
  ro : ∀ b vs l e p, s.get b = some (.cells vs l true e) → μ b = some p → s'.get b = some (.cells vs l true e) ∧ w'.heap[p.1]? = w.heap[p.1]?

variable {P} {R : Nat}

theorem Mv.refl {μ : Place} {s : St} {w : World} (h : HR P R μ s w) (hR : s.next ≤ R) : Mv μ s w μ s w :=
  ⟨Place.le_refl μ, rfl, rfl, .refl _, Nat.le_refl _, Nat.le_refl _, fun b p hb => (h.lt b p hb).2.imp id (Nat.le_trans hR), fun _ _ h => .inl h, fun _ _ _ => rfl, fun _ _ _ _ _ h _ => ⟨h, rfl⟩⟩

theorem Mv.trans {μ ν ξ : Place} {s s' s'' : St} {w w' w'' : World} (h : Mv μ s w ν s' w') (k : Mv ν s' w' ξ s'' w'') : Mv μ s w ξ s'' w'' := by
  refine ⟨Place.le_trans h.le k.le, k.os.trans h.os, k.output.trans h.output, k.tape.trans h.tape, Nat.le_trans h.size k.size, Nat.le_trans h.next k.next, ?_, ?_, ?_, ?_⟩
  · intro b p hb
    rcases h.res b p hb with h1 | h1
    · exact .inl h1
    · rcases k.res b p (h.le _ _ hb) with h2 | h2
      · omega
      · exact .inr h2
  · intro b p hb
    rcases k.fresh b p hb with hq | ⟨h1, h2, hq | ⟨c, q, hc1, hc, e⟩⟩
    · rcases h.fresh b p hq with h3 | ⟨h3, h4, h5⟩
      · exact .inl h3
      · exact .inr ⟨h3, Nat.lt_of_lt_of_le h4 k.next, h5⟩
    · exact .inr ⟨Nat.le_trans h.next h1, h2, .inl (Nat.le_trans h.size hq)⟩
    · refine .inr ⟨Nat.le_trans h.next h1, h2, ?_⟩
      rcases h.fresh c q hc with h3 | ⟨h3, h4, h5 | ⟨d, q', hd1, hd, e'⟩⟩
      · rcases h.res c q h3 with h4 | h4
        · exact .inr ⟨c, q, h4, h3, e⟩
        · omega
      · exact .inl (by omega)
      · exact .inr ⟨d, q', hd1, hd, e'.trans e⟩
  · intro i hi hn
    rw [k.frame i (Nat.lt_of_lt_of_le hi h.size) ?_, h.frame i hi hn]
    intro b p hb1 hb e
    rcases h.fresh b p hb with h3 | ⟨h3, h4, h5 | ⟨d, q', hd1, hd, e'⟩⟩
    · rcases h.res b p h3 with h4 | h4
      · exact hn _ _ h4 h3 e
      · omega
    · omega
    · exact hn _ _ hd1 hd (e'.trans e)
  · intro b vs l e p hs hp
    obtain ⟨h1, h2⟩ := h.ro b vs l e p hs hp
    obtain ⟨k1, k2⟩ := k.ro b vs l e p h1 (h.le _ _ hp)
    exact ⟨k1, k2.trans h2⟩

theorem HR.heap_eq {μ : Place} {s : St} {w w' : World} (h : HR P R μ s w) (e : w'.heap = w.heap) : HR P R μ s w' :=
  ⟨fun b o hb => let ⟨p, hp, ho⟩ := h.obj b o hb; ⟨p, hp, ho.mono (Place.le_refl _) (by rw [e])⟩, h.inj, fun b p hp => by rw [e]; exact h.lt b p hp, h.dom⟩

/-- A new block. -/
def Place.add (μ : Place) (b : Nat) (p : Nat × Nat) : Place := fun c => if c = b then some p else μ c

theorem HR.fresh_none {μ : Place} {s : St} {w : World} (h : HR P R μ s w) (hR : s.next + 1 ≤ R) : μ s.next = none := by
  cases e : μ s.next with
  | none => rfl
  | some p => have := (h.lt _ _ e).2; omega

theorem HR.get_lt {μ : Place} {s : St} {w : World} (h : HR P R μ s w) {b : Nat} {o : AObj} (hb : s.get b = some o) : b < s.next := h.dom b o hb

theorem HR.le_add {μ : Place} {s : St} {w : World} (h : HR P R μ s w) (hR : s.next + 1 ≤ R) (p : Nat × Nat) : μ.le (μ.add s.next p) := by
  intro b q hb
  unfold Place.add
  rw [if_neg]
  · exact hb
  · intro e; subst e; rw [h.fresh_none hR] at hb; cases hb

theorem World.push_old (w : World) (O : Obj) (k : Nat) (h : k < w.heap.size) (d : Nat) : ({ w with heap := w.heap.push O, drawn := d } : World).heap[k]? = w.heap[k]? := by
  show (w.heap.push O)[k]? = _
  rw [Array.getElem?_push, if_neg (by omega)]
theorem World.push_new (w : World) (O : Obj) (d : Nat) : ({ w with heap := w.heap.push O, drawn := d } : World).heap[w.heap.size]? = some O := by
  show (w.heap.push O)[w.heap.size]? = _
  simp

/-- A block that lies is taken up under the next number: one that is laid anew, or one to which that number was given ahead. -/
theorem HR.take {μ ν : Place} {s : St} {w w' : World} (h : HR P R μ s w) (hle : μ.le ν) (hν : ∀ b, b ≠ s.next → ν b = μ b) {q : Nat × Nat} (hq : ν s.next = some q) (hlt : q.1 < w'.heap.size) (hnew : ∀ b o p, s.get b = some o → μ b = some p → p.1 ≠ q.1)
    (hsz : w.heap.size ≤ w'.heap.size) (hold : ∀ b o p, s.get b = some o → μ b = some p → w'.heap[p.1]? = w.heap[p.1]?) (o : AObj) (ho : OR P ν w' q.1 q.2 o) : HR P R ν (s.new o) w' := by
  refine ⟨?_, ?_, ?_, ?_⟩
  · intro b x hb
    rw [St.get_new] at hb
    by_cases e' : b = s.next
    · rw [if_pos e'] at hb; cases hb
      exact ⟨q, by rw [e']; exact hq, ho⟩
    · rw [if_neg e'] at hb
      obtain ⟨p, hp, hx⟩ := h.obj b x hb
      exact ⟨p, hle _ _ hp, hx.mono hle (hold b x p hb hp)⟩
  · intro b c x y p r hb hc hp hr epq
    rw [St.get_new] at hb hc
    have old : ∀ b x p, (if b = s.next then some o else s.get b) = some x → ν b = some p → b ≠ s.next → s.get b = some x ∧ μ b = some p := by
      intro b x p h1 h2 h3
      rw [if_neg h3] at h1
      rw [hν b h3] at h2
      exact ⟨h1, h2⟩
    by_cases eb : b = s.next <;> by_cases ec : c = s.next
    · rw [eb, ec]
    · obtain ⟨hy, hr'⟩ := old c y r hc hr ec
      rw [eb, hq] at hp; cases hp
      exact absurd epq.symm (hnew c _ _ hy hr')
    · obtain ⟨hy, hp'⟩ := old b x p hb hp eb
      rw [ec, hq] at hr; cases hr
      exact absurd epq (hnew b _ _ hy hp')
    · obtain ⟨hx, hp'⟩ := old b x p hb hp eb
      obtain ⟨hy, hr'⟩ := old c y r hc hr ec
      exact h.inj b c _ _ p r hx hy hp' hr' epq
  · intro b p hp
    by_cases eb : b = s.next
    · rw [eb, hq] at hp; cases hp
      exact ⟨hlt, .inl (by simp [eb])⟩
    · rw [hν b eb] at hp
      have := h.lt _ _ hp
      refine ⟨by omega, ?_⟩
      simp; omega
  · intro b x hb
    rw [St.get_new] at hb
    by_cases eb : b = s.next
    · simp [eb]
    · rw [if_neg eb] at hb
      have := h.dom b x hb
      simp; omega

/-- A block is laid. -/
theorem HR.new {μ : Place} {s : St} {w : World} (h : HR P R μ s w) (hR : s.next + 1 ≤ R) (o : AObj) (O : Obj) (e d : Nat)
    (ho : OR P (μ.add s.next (w.heap.size, e)) { w with heap := w.heap.push O, drawn := d } w.heap.size e o) (hd : w.drawn ≤ d := by first | exact Nat.le_refl _ | exact Nat.le_succ _ | exact Nat.le_add_right _ _) :
    HR P R (μ.add s.next (w.heap.size, e)) (s.new o) { w with heap := w.heap.push O, drawn := d } ∧
    Mv μ s w (μ.add s.next (w.heap.size, e)) (s.new o) { w with heap := w.heap.push O, drawn := d } := by
  have hle := h.le_add hR (w.heap.size, e)
  refine ⟨h.take hle (fun b hb => by simp [Place.add, hb]) (q := (w.heap.size, e)) (by simp [Place.add]) (by simp) ?_ (by simp) ?_ o ho, ⟨hle, rfl, rfl, ⟨rfl, fun _ => hd⟩, by simp, by simp, ?_, ?_, ?_, ?_⟩⟩
  · intro b x p _ hp e'
    have := (h.lt _ _ hp).1
    simp at e'
    omega
  · intro b x p _ hp
    exact World.push_old w O p.1 (h.lt _ _ hp).1 d
  · intro b p hp
    have := (h.lt _ _ hp).2
    simp
    omega
  · intro b p hp
    simp only [Place.add] at hp
    by_cases eb : b = s.next
    · rw [if_pos eb] at hp; cases hp
      exact .inr ⟨by omega, by simp [eb], .inl (Nat.le_refl _)⟩
    · rw [if_neg eb] at hp; exact .inl hp
  · intro k hk _
    exact World.push_old w O k hk d
  · intro b vs l z p hb hp
    refine ⟨?_, World.push_old w O p.1 (h.lt _ _ hp).1 d⟩
    rw [St.get_new, if_neg (by have := h.get_lt hb; omega)]
    exact hb

/-- A block is turned. -/
theorem HR.turn {μ : Place} {s : St} {w w' : World} (h : HR P R μ s w) (hR : s.next ≤ R) {b : Nat} {o o' : AObj} {p : Nat × Nat} (hb : s.get b = some o) (hp : μ b = some p)
    (hro : ∀ vs l e, o ≠ .cells vs l true e) (ho : OR P μ w' p.1 p.2 o')
    (hos : w'.os = w.os) (hout : w'.output = w.output) (htape : TapeLe w w') (hsize : w'.heap.size = w.heap.size) (hk : ∀ k, k ≠ p.1 → w'.heap[k]? = w.heap[k]?) :
    HR P R μ (s.put b o') w' ∧ Mv μ s w μ (s.put b o') w' := by
  refine ⟨⟨?_, ?_, ?_, ?_⟩, ⟨Place.le_refl μ, hos, hout, htape, by omega, by simp, fun c q hq => (h.lt c q hq).2.imp id (Nat.le_trans hR), fun _ q hq => .inl hq, ?_, ?_⟩⟩
  · intro c x hc
    rw [St.get_put] at hc
    by_cases e : c = b
    · rw [if_pos e] at hc; cases hc; subst e; exact ⟨p, hp, ho⟩
    · rw [if_neg e] at hc
      obtain ⟨q, hq, hx⟩ := h.obj c x hc
      refine ⟨q, hq, hx.mono (Place.le_refl _) (hk q.1 ?_)⟩
      intro e'
      exact e (h.inj c b _ _ q p hc hb hq hp e')
  · intro c d x y q r hc hd hq hr e
    rw [St.get_put] at hc hd
    have old : ∀ c x, (if c = b then some o' else s.get c) = some x → ∃ y, s.get c = some y := by
      intro c x hx
      by_cases e : c = b
      · subst e; exact ⟨o, hb⟩
      · rw [if_neg e] at hx; exact ⟨x, hx⟩
    obtain ⟨x', hx'⟩ := old c x hc
    obtain ⟨y', hy'⟩ := old d y hd
    exact h.inj c d _ _ q r hx' hy' hq hr e
  · intro c q hq
    have := h.lt c q hq
    simp; omega
  · intro c x hc
    rw [St.get_put] at hc
    by_cases e : c = b
    · subst e; exact h.dom c o hb
    · rw [if_neg e] at hc; exact h.dom c x hc
  · intro k _ hn
    exact hk k (fun e => hn b p (h.dom b o hb) hp e.symm)
  · intro c vs l e q hc hq
    have hne : c ≠ b := by
      intro e'; subst e'; rw [hb] at hc; cases hc; exact hro _ _ _ rfl
    refine ⟨by rw [St.get_put, if_neg hne]; exact hc, hk q.1 ?_⟩
    intro e'
    exact hne (h.inj c b _ _ q p hc hb hq hp e')

/-- Nothing may be asked of a block any more. -/
theorem HR.drop {μ : Place} {s : St} {w : World} (h : HR P R μ s w) (hR : s.next ≤ R) {b : Nat} {o : AObj} (hb : s.get b = some o) (hro : ∀ vs l e, o ≠ .cells vs l true e) :
    HR P R μ (s.drop b) w ∧ Mv μ s w μ (s.drop b) w := by
  have old : ∀ c x, (s.drop b).get c = some x → s.get c = some x ∧ c ≠ b := by
    intro c x hc
    rw [St.get_drop] at hc
    by_cases e : c = b
    · rw [if_pos e] at hc; cases hc
    · rw [if_neg e] at hc; exact ⟨hc, e⟩
  refine ⟨⟨fun c x hc => h.obj c x (old c x hc).1, fun c d x y q r hc hd => h.inj c d x y q r (old c x hc).1 (old d y hd).1, h.lt, fun c x hc => h.dom c x (old c x hc).1⟩,
    ⟨Place.le_refl μ, rfl, rfl, .refl _, Nat.le_refl _, Nat.le_refl _, fun c q hq => (h.lt c q hq).2.imp id (Nat.le_trans hR), fun _ q hq => .inl hq, fun _ _ _ => rfl, ?_⟩⟩
  intro c vs l e q hc hq
  refine ⟨?_, rfl⟩
  rw [St.get_drop, if_neg]
  · exact hc
  · intro e'; subst e'; rw [hb] at hc; cases hc; exact hro _ _ _ rfl

/-- A block goes on under another number: nothing may be asked of the elder one any more. -/
theorem HR.alias {μ : Place} {s : St} {w w' : World} (h : HR P R μ s w) (hR : s.next + 1 ≤ R) {b : Nat} {o o' : AObj} {p : Nat × Nat} {e : Nat} (hb : s.get b = some o) (hp : μ b = some p)
    (hro : ∀ vs l e, o ≠ .cells vs l true e) (ho : OR P (μ.add s.next (p.1, e)) w' p.1 e o')
    (hos : w'.os = w.os) (hout : w'.output = w.output) (htape : TapeLe w w') (hsize : w'.heap.size = w.heap.size) (hk : ∀ k, k ≠ p.1 → w'.heap[k]? = w.heap[k]?) :
    HR P R (μ.add s.next (p.1, e)) ((s.drop b).new o') w' ∧ Mv μ s w (μ.add s.next (p.1, e)) ((s.drop b).new o') w' := by
  have hle := h.le_add hR (p.1, e)
  obtain ⟨hd, _⟩ := h.drop (by omega) hb hro
  have other : ∀ c x q, (s.drop b).get c = some x → μ c = some q → q.1 ≠ p.1 := by
    intro c x q hc hq e'
    rw [St.get_drop] at hc
    by_cases ec : c = b
    · rw [if_pos ec] at hc; cases hc
    · rw [if_neg ec] at hc
      exact ec (h.inj c b _ _ q p hc hb hq hp e')
  refine ⟨hd.take hle (fun c hc => by simp only [Place.add]; rw [if_neg (show c ≠ s.next from hc)]) (q := (p.1, e)) (by simp [Place.add]) (by rw [hsize]; exact (h.lt _ _ hp).1) other (by omega) (fun c x q hc hq => hk q.1 (other c x q hc hq)) o' ho,
    ⟨hle, hos, hout, htape, by omega, by simp, ?_, ?_, ?_, ?_⟩⟩
  · intro c q hq
    have := (h.lt _ _ hq).2
    simp
    omega
  · intro c q hq
    simp only [Place.add] at hq
    by_cases ec : c = s.next
    · rw [if_pos ec] at hq; cases hq
      exact .inr ⟨by omega, by simp [ec], .inr ⟨b, p, h.dom b o hb, hp, rfl⟩⟩
    · rw [if_neg ec] at hq; exact .inl hq
  · intro k _ hn
    exact hk k (fun e => hn b p (h.dom b o hb) hp e.symm)
  · intro c vs l z q hc hq
    have hne : c ≠ b := by
      intro e'; subst e'; rw [hb] at hc; cases hc; exact hro _ _ _ rfl
    have hcn := h.get_lt hc
    refine ⟨?_, hk q.1 (fun e' => hne (h.inj c b _ _ q p hc hb hq hp e'))⟩
    rw [St.get_new, if_neg (by simp; omega), St.get_drop, if_neg hne]
    exact hc

/-- A cell reads as what it stands for. -/
theorem HR.cell {μ : Place} {s : St} {w : World} (h : HR P R μ s w) {b : Nat} {vs : List AV} {l r : Bool} {z : Nat} (hb : s.get b = some (.cells vs l r z)) {p : Nat × Nat} (hp : μ b = some p)
    {i : Nat} {v : AV} (hv : vs[i]? = some v) : ∃ c, w.cell? ⟨p.1, i, none⟩ = some c ∧ conc μ v = some c := by
  obtain ⟨q, hq, c, el, fz, xs, rest, h1, h2, h3, _⟩ := h.obj _ _ hb
  rw [hp] at hq; cases hq
  obtain ⟨x, hx, hc⟩ := concs_get h2 i v hv
  refine ⟨x, ?_, hc⟩
  have hlt : i < xs.length := (List.getElem?_eq_some_iff.1 hx).1
  simp only [World.cell?, h1, Option.isSome_none, Bool.false_eq_true, if_false]
  rw [← Array.getElem?_toList, h3, List.getElem?_append_left hlt, hx]
end
end Go.Proofs.YteiiblpnegjjlaaGreat.D
namespace Go.Proofs.YteiiblpnegjjlaaGreat.D
noncomputable section

abbrev Ev := X → Option AV

def evO (ev : Ev) : Option X → Option (Option AV)
  | none => some none
  | some x => match ev x with
    | some v => some (some v)
    | none => none

def evs (ev : Ev) : List X → Option (List AV)
  | [] => some []
  | x :: r => match ev x with
    | some v => match evs ev r with
      | some l => some (v :: l)
      | none => none
    | none => none

/-- Some places of a list are other ones. -/
def splice (l : List AV) (off : Nat) (vs : List AV) : List AV := l.take off ++ vs ++ l.drop (off + vs.length)

def fillA (ev : Ev) (z : List AV) : List (Nat × Nat × X) → Option (List AV)
  | [] => some z
  | (off, size, x) :: r => match ev x with
    | some v => if v.cells.length = size ∧ off + size ≤ z.length then fillA ev (splice z off v.cells) r else none
    | none => none

/-- The cells of a row from a place on. -/
def loadA (s : St) (b o n : Nat) : Option (List AV) :=
  match s.get b with
  | some (.cells vs _ _ _) => if o + n ≤ vs.length then some ((vs.drop o).take n) else none
  | _ => none

def allCell : List AV → Bool
  | [] => true
  | v :: r => v.cell && allCell r

def storeA (s : St) (b o : Nat) (l : List AV) : Option St :=
  match s.get b with
  | some (.cells vs lo false z) => if o + l.length ≤ vs.length ∧ allCell l = true then some (s.put b (.cells (splice vs o l) lo false z)) else none
  | _ => none

/-- Two cells of a kind: bools 0, numbers 1, texts 2. -/
def leafEq : Nat → AV → AV → Option Bool
  | 0, .bool a, .bool b => some (a == b)
  | 1, .int k a, .int k' b => if k = k' then some (a == b) else none
  | 2, .str a, .str b => some (a == b)
  | _, _, _ => none

def cellsEq : List Nat → List AV → List AV → Option Bool
  | [], [], [] => some true
  | k :: ks, x :: l, y :: m => match leafEq k x y with
    | some true => cellsEq ks l m
    | some false => if l.length = ks.length ∧ m.length = ks.length then some false else none
    | none => none
  | _, _, _ => none

/-- Is a slice that was left unread none? -/
def rawNil : Value → Option Bool
  | .slice p _ _ => some p.isNone
  | _ => none
/-- Is a value of a kind nil? -/
def nilOf : EqK → AV → Option Bool
  | .ptr, .nilPtr => some true
  | .ptr, .ptr _ _ => some false
  | .slice, .nilSlice => some true
  | .slice, .slice .. => some false
  | .slice, .tail .. => some false
  | .slice, .raw v => rawNil v
  | .map, .nilMap => some true
  | .map, .map _ => some false
  | .func, .nilFn => some true
  | .func, .fn .. => some false
  | .iface, .nilIface => some true
  | .iface, .iface .. => some false
  | _, _ => none

def boolEq : AV → AV → Option Bool
  | .bool a, .bool b => some (a == b)
  | _, _ => none

def aggEq (ks : List Nat) : AV → AV → Option Bool
  | .agg l, .agg m => cellsEq ks l m
  | _, _ => none

def nilEq (k : EqK) (a b : AV) : Option Bool :=
  match nilOf k a with
  | none => none
  | some x => match nilOf k b with
    | none => none
    | some y => if x then some y else if y then some x else none

def eqA (k : EqK) (a b : AV) : Option Bool :=
  match k with
  | .no => none
  | .leaf => boolEq a b
  | .cells ks => aggEq ks a b
  | .ptr => nilEq .ptr a b
  | .slice => nilEq .slice a b
  | .map => nilEq .map a b
  | .func => nilEq .func a b
  | .iface => nilEq .iface a b

def intBin (op : BinOp) (k : IntKind) (a b : Int) : Option AV :=
  match op with
  | .add => some (.int k (k.wrap (a + b)))
  | .sub => some (.int k (k.wrap (a - b)))
  | .mul => some (.int k (k.wrap (a * b)))
  | .quo => if b = 0 then none else some (.int k (k.wrap (a.tdiv b)))
  | .rem => if b = 0 then none else some (.int k (a.tmod b))
  | .and => some (.int k (k.wrap ((BitVec.ofInt k.bits a &&& BitVec.ofInt k.bits b).toNat)))
  | .or => some (.int k (k.wrap ((BitVec.ofInt k.bits a ||| BitVec.ofInt k.bits b).toNat)))
  | .xor => some (.int k (k.wrap ((BitVec.ofInt k.bits a ^^^ BitVec.ofInt k.bits b).toNat)))
  | .andNot => some (.int k (k.wrap ((BitVec.ofInt k.bits a &&& ~~~(BitVec.ofInt k.bits b)).toNat)))
  | .eql => some (.bool (a == b))
  | .neq => some (.bool (a != b))
  | .lss => some (.bool (decide (a < b)))
  | .leq => some (.bool (decide (a ≤ b)))
  | .gtr => some (.bool (decide (a > b)))
  | .geq => some (.bool (decide (a ≥ b)))
  | _ => none

def strBin (op : BinOp) (a b : ByteArray) : Option AV :=
  match op with
  | .add => if ((a.size + b.size : Nat) : Int) > IntKind.i64.max then none else some (.str (a ++ b))
  | .eql => some (.bool (a.toList == b.toList))
  | .neq => some (.bool !(a.toList == b.toList))
  | .lss => some (.bool (Op.bytesLess a.toList b.toList))
  | _ => none

def binA (op : BinOp) (e : EqK) (x y : AV) : Option AV :=
  match op, x, y with
  | .shl, .int k a, .int _ b => if b < 0 then none else some (.int k (k.wrap (a * 2 ^ (min b.toNat k.bits))))
  | .shr, .int k a, .int _ b => if b < 0 then none else some (.int k (a.fdiv (2 ^ (min b.toNat k.bits))))
  | _, .int k a, .int k' b => if k = k' then intBin op k a b else none
  | _, .str a, .str b => strBin op a b
  | .eql, x, y => match eqA e x y with
    | some b => some (.bool b)
    | none => none
  | .neq, x, y => match eqA e x y with
    | some b => some (.bool (!b))
    | none => none
  | _, _, _ => none

def unA (op : UnOp) (x : AV) : Option AV :=
  match op, x with
  | .neg, .int k n => some (.int k (k.wrap (0 - n)))
  | .xor, .int k n => some (.int k (k.wrap ((BitVec.ofInt k.bits (if k.signed then -1 else k.max) ^^^ BitVec.ofInt k.bits n).toNat)))
  | .not, .bool b => some (.bool !b)
  | _, _ => none

/-- A bound of a slice expression: from 0 to another one. -/
def boundA (v : AV) (y : Nat) : Option Nat :=
  match v with
  | .int _ n => if 0 ≤ n ∧ n ≤ y then some n.toNat else none
  | _ => none

/-- The three bounds. -/
def boundsA (len cap : Nat) (lo hi mx : Option AV) : Option (Nat × Nat × Nat) :=
  match (match mx with | some v => boundA v cap | none => some cap) with
  | none => none
  | some m => match (match hi, mx with
      | some v, _ => boundA v m
      | none, none => if len ≤ m then some len else none
      | none, some _ => none) with
    | none => none
    | some h => match (match lo with | some v => boundA v h | none => some 0) with
      | none => none
      | some l => some (l, h, m)

def isZero : Option AV → Bool
  | none => true
  | some (.int _ n) => n == 0
  | _ => false

def sliceA (esz : Nat) (x : AV) (lo hi mx : Option AV) : Option AV :=
  match x with
  | .nilSlice => match boundsA 0 0 lo hi mx with
    | some _ => some .nilSlice
    | none => none
  | .tail b o adv => if mx.isNone && isZero lo && isZero hi then some (.tail b o adv) else none
  | .slice b o len cap loose => match boundsA len cap lo hi mx with
    | none => none
    | some (l, h, m) =>
      if loose && mx.isNone then
        if m = l then some (.tail b o (l * esz)) else some (.slice b (o + l * esz) (h - l) (m - l) true)
      else some (.slice b (if m = l then o else o + l * esz) (h - l) (m - l) false)
  | .raw (.slice a 0 0) => match boundsA 0 0 lo hi mx with
    | some _ => some (.raw (.slice a 0 0))
    | none => none
  | _ => none

def indexA (v : AV) (len : Nat) : Option Nat :=
  match v with
  | .int _ n => if 0 ≤ n ∧ n < len then some n.toNat else none
  | _ => none

def partA (n : Option Nat) (cs : List AV) (off : Nat) : Option AV :=
  match n with
  | some k => some (.agg ((cs.drop off).take k))
  | none => cs[off]?

/-- Where a key is among entries. -/
def findA (k : IntKind) (a : Int) : List (AV × AV × Nat) → Nat → Option (Option (Nat × AV))
  | [], _ => some none
  | (.int k' b, v, _) :: r, i => if k = k' then (if a == b then some (some (i, v)) else findA k a r (i + 1)) else none
  | _ :: _, _ => none

def bytesA : List AV → Option (List UInt8)
  | [] => some []
  | .int .u8 n :: r => match bytesA r with
    | some l => some (UInt8.ofNat n.toNat :: l)
    | none => none
  | _ :: _ => none

def foldMM (mx : Bool) : AV → List AV → Option AV
  | v, [] => some v
  | .int k x, .int _ y :: r => foldMM mx (.int k (if mx then (if y > x then y else x) else (if y < x then y else x))) r
  | _, _ => none

/-- The cells that append, or copy, takes from its second operand. -/
def srcA (s : St) (esz : Nat) : AV → Option (Nat × List AV)
  | .nilSlice => some (0, [])
  | .tail .. => some (0, [])
  | .raw (.slice _ 0 _) => some (0, [])
  | .slice b o len _ _ => match loadA s b o (len * esz) with
    | some l => some (len, l)
    | none => none
  | .str x => if esz = 1 then some (x.size, x.data.toList.map fun c => .int .u8 c.toNat) else none
  | _ => none

def newA (s : St) (o : AObj) (v : AV) : Option (AV × St) := some (v, s.new o)

def appendA (esz ebytes : Nat) (s : St) (x : AV) (n : Nat) (new : List AV) : Option (AV × St) :=
  match x with
  | .nilSlice => if n = 0 then some (.nilSlice, s) else if n * ebytes ≤ 2 ^ 46 then newA s (.cells new true false esz) (.slice s.next 0 n n true) else none
  | .slice b o len cap loose =>
    if len + n ≤ cap then
      if n = 0 then some (.slice b o len cap loose, s) else
      match storeA s b (o + len * esz) new with
      | some s' => some (.slice b o (len + n) cap loose, s')
      | none => none
    else if (len + n) * ebytes ≤ 2 ^ 46 then
      match loadA s b o (len * esz) with
      | none => none
      | some old =>
        if loose then
          if o = 0 then
            match s.get b with
            | some (.cells vs true false z) => if z = esz ∧ vs.length = cap * esz ∧ allCell new = true then
                some (.slice s.next 0 (len + n) (len + n) true, (s.drop b).new (.cells (old ++ new) true false esz)) else none
            | _ => none
          else none
        else newA s (.cells (old ++ new) true false esz) (.slice s.next 0 (len + n) (len + n) true)
    else none
  | _ => none

def undefA : AV := .tup []

def xop (p : POp) (ev : Ev) (s : St) : Option (AV × St) :=
  let pure' (v : Option AV) : Option (AV × St) := match v with
    | some v => some (v, s)
    | none => none
  match p with
  | .move x => pure' (ev x)
  | .pick c a b => match ev c with
    | some (.bool true) => pure' (ev a)
    | some (.bool false) => pure' (ev b)
    | _ => none
  | .alloc z => newA s (.cells z false false 0) (.ptr s.next 0)
  | .box x => match ev x with
    | some v => newA s (.cells v.cells false false 0) (.ptr s.next 0)
    | none => none
  | .build z parts => match fillA ev z parts with
    | some l => some (.agg l, s)
    | none => none
  | .buildSlice z n parts _ => match fillA ev z parts with
    | some l => newA s (.cells l false false 0) (.slice s.next 0 n n false)
    | none => none
  | .load1 a => match ev a with
    | some (.ptr b o) => match s.get b with
      | some (.cells vs _ _ _) => pure' vs[o]?
      | _ => none
    | _ => none
  | .loadN n a => match ev a with
    | some (.ptr b o) => match loadA s b o n with
      | some l => some (.agg l, s)
      | none => none
    | _ => none
  | .store n a v => match ev a, ev v with
    | some (.ptr b o), some v => if v.cells.length = n then match storeA s b o v.cells with
        | some s' => some (undefA, s')
        | none => none
      else none
    | _, _ => none
  | .nilCheck x => match ev x with
    | some (.ptr b o) => some (.ptr b o, s)
    | some (.fn (.func f) a c) => some (.fn (.func f) a c, s)
    | some (.yld r) => some (.yld r, s)
    | _ => none
  | .bin op e x y => match ev x, ev y with
    | some a, some b => pure' (binA op e a b)
    | _, _ => none
  | .un op x => match ev x with
    | some a => pure' (unA op a)
    | none => none
  | .convInt k x => match ev x with
    | some (.int _ n) => some (.int k (k.wrap n), s)
    | _ => none
  | .convSame x => match ev x with
    | some (.str v) => some (.str v, s)
    | _ => none
  | .convStr _ x => match ev x with
    | some (.str v) => newA s (.cells (v.data.toList.map fun c => .int .u8 c.toNat) true false 1) (.slice s.next 0 v.size v.size true)
    | _ => none
  | .convBytes x => match ev x with
    | some .nilSlice => some (.str .empty, s)
    | some (.tail ..) => some (.str .empty, s)
    | some (.raw (.slice _ 0 _)) => some (.str .empty, s)
    | some (.slice _ _ 0 _ _) => some (.str .empty, s)
    | some (.slice b o len _ _) => match loadA s b o len with
      | some l => match bytesA l with
        | some bs => some (.str ⟨bs.toArray⟩, s)
        | none => none
      | none => none
    | _ => none
  | .mkIface t x => match ev x with
    | some v => some (.iface t v, s)
    | none => none
  | .mkFunc f a c => match evs ev a, evs ev c with
    | some a, some c => some (.fn f a c, s)
    | _, _ => none
  | .mkMap => newA s (.map [] 0) (.map s.next)
  | .mkSlice _ eb z l c => match ev l, ev c with
    | some (.int _ l), some (.int _ c) => if 0 ≤ l ∧ l ≤ c ∧ c < 2 ^ 40 ∧ (eb : Int) * c ≤ 2 ^ 46 then
        newA s (.cells (List.replicate c.toNat z).flatten false false 0) (.slice s.next 0 l.toNat c.toNat false) else none
    | _, _ => none
  | .sliceSl e x lo hi mx => match ev x, evO ev lo, evO ev hi, evO ev mx with
    | some x, some lo, some hi, some mx => pure' (sliceA e x lo hi mx)
    | _, _, _, _ => none
  | .sliceStr x lo hi => match ev x, evO ev lo, evO ev hi with
    | some (.str v), some lo, some hi => match boundsA v.size v.size lo hi none with
      | some (l, h, _) => some (.str (v.extract l h), s)
      | none => none
    | _, _, _ => none
  | .sliceArr n e x lo hi mx => match ev x, evO ev lo, evO ev hi, evO ev mx with
    | some (.ptr b o), some lo, some hi, some mx => match boundsA n n lo hi mx with
      | some (l, h, m) => some (.slice b (if m = l then o else o + l * e) (h - l) (m - l) false, s)
      | none => none
    | _, _, _, _ => none
  | .fieldAddr off x => match ev x with
    | some (.ptr b o) => some (.ptr b (o + off), s)
    | _ => none
  | .field off n x => match ev x with
    | some (.agg l) => pure' (partA n l off)
    | _ => none
  | .idxArr len e x i => match ev x, ev i with
    | some (.ptr b o), some i => match indexA i len with
      | some k => some (.ptr b (o + k * e), s)
      | none => none
    | _, _ => none
  | .idxSl e x i => match ev x, ev i with
    | some (.slice b o len _ _), some i => match indexA i len with
      | some k => some (.ptr b (o + k * e), s)
      | none => none
    | _, _ => none
  | .idxAgg len e g x i => match ev x, ev i with
    | some (.agg l), some i => match indexA i len with
      | some k => pure' (partA (if g then some e else none) l (k * e))
      | none => none
    | _, _ => none
  | .idxStr x i => match ev x, ev i with
    | some (.str v), some i => match indexA i v.size with
      | some k => match v[k]? with
        | some c => some (.int .u8 c.toNat, s)
        | none => none
      | none => none
    | _, _ => none
  | .lookup z m k ok => match ev m, ev k with
    | some .nilMap, some (.int _ _) => some (if ok then .tup [z, .bool false] else z, s)
    | some (.map r), some (.int kk a) => match s.get r with
      | some (.map es _) => match findA kk a es 0 with
        | some (some (_, v)) => some (if ok then .tup [v, .bool true] else v, s)
        | some none => some (if ok then .tup [z, .bool false] else z, s)
        | none => none
      | _ => none
    | _, _ => none
  | .mapUpd m k v => match ev m, ev k, ev v with
    | some (.map r), some (.int kk a), some v => match s.get r with
      | some (.map es cl) => match findA kk a es 0 with
        | some (some (i, _)) => some (undefA, s.put r (.map (es.modify i fun e => (.int kk a, v, e.2.2)) cl))
        | some none => some (undefA, s.put r (.map (es ++ [(.int kk a, v, cl)]) (cl + 1)))
        | none => none
      | _ => none
    | _, _, _ => none
  | .extract x i => match ev x with
    | some (.tup l) => pure' l[i]?
    | _ => none
  | .append esz eb _ x y => match ev x, ev y with
    | some x, some y => match srcA s esz y with
      | some (n, l) => if l.length = n * esz then appendA esz eb s x n l else none
      | none => none
    | _, _ => none
  | .appendN esz eb z x y => match ev x, ev y with
    | some x, some (.int _ k) => if 0 ≤ k ∧ k < 2 ^ 40 ∧ k.toNat * eb ≤ 2 ^ 46 then appendA esz eb s x k.toNat (List.replicate k.toNat z).flatten else none
    | _, _ => none
  | .copy esz d x => match ev d, ev x with
    | some d, some x => match srcA s esz x with
      | none => none
      | some (n, l) => match d with
        | .nilSlice => some (.int .i64 0, s)
        | .tail .. => some (.int .i64 0, s)
        | .slice b o len _ _ => if min n len = 0 then some (.int .i64 0, s) else match storeA s b o (l.take (min n len * esz)) with
          | some s' => some (.int .i64 (min n len : Nat), s')
          | none => none
        | _ => none
    | _, _ => none
  | .len 0 x => match ev x with
    | some (.str v) => some (.int .i64 v.size, s)
    | _ => none
  | .len 1 x => match ev x with
    | some .nilSlice => some (.int .i64 0, s)
    | some (.tail ..) => some (.int .i64 0, s)
    | some (.slice _ _ n _ _) => some (.int .i64 n, s)
    | some (.raw (.slice _ n _)) => some (.int .i64 n, s)
    | _ => none
  | .len _ x => match ev x with
    | some .nilMap => some (.int .i64 0, s)
    | some (.map r) => match s.get r with
      | some (.map es _) => some (.int .i64 es.length, s)
      | _ => none
    | _ => none
  | .lenArr n => some (.int .i64 n, s)
  | .cap x => match ev x with
    | some .nilSlice => some (.int .i64 0, s)
    | some (.slice _ _ _ c false) => some (.int .i64 c, s)
    | _ => none
  | .minmax mx l => match evs ev l with
    | some (v :: r) => pure' (foldMM mx v r)
    | _ => none
  | .clearMap x => match ev x with
    | some .nilMap => some (undefA, s)
    | some (.map r) => match s.get r with
      | some (.map _ cl) => some (undefA, s.put r (.map [] cl))
      | _ => none
    | _ => none
  | .clear z x => match ev x with
    | some .nilSlice => some (undefA, s)
    | some (.tail ..) => some (undefA, s)
    | some (.slice b o n _ _) => if n = 0 then some (undefA, s) else match storeA s b o (List.replicate n z).flatten with
      | some s' => some (undefA, s')
      | none => none
    | _ => none
  | .delete m k => match ev m, ev k with
    | some .nilMap, some (.int _ _) => some (undefA, s)
    | some (.map r), some (.int kk a) => match s.get r with
      | some (.map es cl) => match findA kk a es 0 with
        | some (some (i, _)) => some (undefA, s.put r (.map (es.eraseIdx i) cl))
        | some none => some (undefA, s)
        | none => none
      | _ => none
    | _, _ => none
  | .call .. => none
  | .range x => match ev x with
    | some .nilMap => newA s (.miter none 0 [] 0) (.ptr s.next 0)
    | some (.map r) => match s.get r with
      | some (.map _ clock) => newA s (.miter (some r) clock [] clock) (.ptr s.next 0)
      | _ => none
    | _ => none
  | .next x => match ev x with
    | some (.ptr b 0) => match s.get b with
      | some (.miter (some r) since seen last) => match s.get r with
        | some (.map es _) => match es.all (fun e => Nat.blt e.2.2 since && seen.contains e.2.2) && Nat.ble since last with
          | true => some (.tup [.bool false], s)
          | false => none
        | _ => none
      | _ => none
    | _ => none
  | .entry x => match ev x with
    | some (.ptr b 0) => match s.get b with
      | some (.miter (some r) _ seen last) => match s.get r with
        | some (.map es clock) => if clock = last then match seen.getLast? with
            | some k => match es.find? (fun e => e.2.2 == k) with
              | some e => some (.tup [e.1, e.2.1], s)
              | none => none
            | none => none
          else none
        | _ => none
      | _ => none
    | _ => none
  | .fail => none
end
end Go.Proofs.YteiiblpnegjjlaaGreat.D
namespace Go.Proofs.YteiiblpnegjjlaaGreat.D
noncomputable section

/-- Are two values that were left unread the same? -/
def sameV : Value → Value → Bool
  | .slice a n c, .slice b m d => decide (a = b ∧ n = m ∧ c = d)
  | _, _ => false
theorem sameV_eq : ∀ {v w : Value}, sameV v w = true → v = w
  | .slice .., w, h => by
    cases w <;> simp [sameV] at h
    obtain ⟨rfl, rfl, rfl⟩ := h
    rfl
  | .bool _, _, h | .int .., _, h | .string _, _, h | .pointer _, _, h | .map _, _, h | .func .., _, h | .nilFunc, _, h | .iface .., _, h | .nilIface, _, h | .agg _, _, h | .tuple _, _, h => by simp [sameV] at h
mutual
/-- Are two values the same? -/
def same : AV → AV → Bool
  | .bool a, .bool b => a == b
  | .int k a, .int l b => decide (k = l) && decide (a = b)
  | .str a, .str b => decide (a.data.toList = b.data.toList)
  | .ptr a b, .ptr c d => Nat.beq a c && Nat.beq b d
  | .nilPtr, .nilPtr => true
  | .slice a b c d e, .slice a' b' c' d' e' => Nat.beq a a' && Nat.beq b b' && Nat.beq c c' && Nat.beq d d' && (e == e')
  | .nilSlice, .nilSlice => true
  | .tail a b c, .tail a' b' c' => Nat.beq a a' && Nat.beq b b' && Nat.beq c c'
  | .map a, .map b => Nat.beq a b
  | .nilMap, .nilMap => true
  | .nilFn, .nilFn => true
  | .nilIface, .nilIface => true
  | .iface t v, .iface u w => Nat.beq t u && same v w
  | .agg l, .agg m => sames l m
  | .tup l, .tup m => sames l m
  | .raw v, .raw w => sameV v w
  | _, _ => false
def sames : List AV → List AV → Bool
  | [], [] => true
  | x :: l, y :: m => same x y && sames l m
  | _, _ => false
end

def evOf (ts : Tr AV) : Ev
  | .t n => ts.get n
  | .c v => some v

def putT (d : Option Nat) (v : AV) (ts : Tr AV) : Tr AV :=
  match d with
  | some t => ts.set t v
  | none => ts

abbrev Res := Option (AExit × Tr AV × List Nat × St)

structure Eng where
  call : Nat → List AV → St → Option (AV × St)
  ex : Option Nat → PC → Tr AV → List Nat → St → Res

def setTs : List Nat → List AV → Tr AV → Tr AV
  | p :: ps, a :: asg, ts => setTs ps asg (ts.set p a)
  | _, _, ts => ts

def initT : Nat → List AV → Tr AV → Tr AV
  | i, a :: asg, ts => initT (i + 1) asg (ts.set i a)
  | _, [], ts => ts

/-- A call of yield: a round of a loop over a function. -/
def roundA (e : Eng) (r : Nat) (args : List AV) (s : St) : Option (AV × St) :=
  match s.get r with
  | some (.loop .ready _ ts params assign body _) =>
    if args.length = params.length then
      match e.ex (some r) assign (setTs params args ts) [] s with
      | some (.normal, ts1, [], s1) => match s1.get r with
        | some (.loop .ready pe ts2 ps2 a2 b2 d2) =>
          match e.ex (some r) body ts1 [] (s1.put r (.loop .busy pe ts2 ps2 a2 b2 d2)) with
          | some (x, _, [], s3) => match s3.get r with
            | some (.loop _ _ ts3 ps3 a3 b3 d3) =>
              match x with
              | .normal => some (.bool true, s3.put r (.loop .ready .normal ts3 ps3 a3 b3 d3))
              | x => some (.bool false, s3.put r (.loop .done x ts3 ps3 a3 b3 d3))
            | _ => none
          | _ => none
        | _ => none
      | _ => none
    else none
  | _ => none

def callV (e : Eng) (f : AV) (args : List AV) (s : St) : Option (AV × St) :=
  match f with
  | .fn (.func f) first captured => e.call f (first ++ args ++ captured) s
  | .yld r => roundA e r args s
  | _ => none

/-- Is an operation carried out, by its test? -/
def wantedA (g : Option (Nat × Bool)) (ts : Tr AV) : Option Bool :=
  match g with
  | none => some true
  | some (t, b) => match ts.get t with
    | some (.bool x) => some (x == b)
    | some (.tup []) => some false
    | _ => none

def opVal (e : Eng) (p : POp) (ev : Ev) (s : St) : Option (AV × St) :=
  match p with
  | .call f args => match ev f with
    | none => none
    | some fv => match evs ev args with
      | none => none
      | some l => callV e fv l s
  | p => xop p ev s

def opStep (e : Eng) (p : PO) (ts : Tr AV) (s : St) : Option (Tr AV × St) :=
  match wantedA p.guard ts with
  | none => none
  | some false => some (putT p.dst undefA ts, s)
  | some true => match opVal e p.op (evOf ts) s with
    | none => none
    | some (v, s') => some (putT p.dst v ts, s')

def runOps (e : Eng) : List PO → Tr AV → St → Option (Tr AV × St)
  | [], ts, s => some (ts, s)
  | p :: r, ts, s => match opStep e p ts s with
    | none => none
    | some (ts', s') => runOps e r ts' s'

/-- The same, and what the memory was ahead of each of them, the last one first. -/
def runSnaps (e : Eng) : List PO → Tr AV → St → List St → Option (Tr AV × St × List St)
  | [], ts, s, acc => some (ts, s, s :: acc)
  | p :: r, ts, s, acc => match opStep e p ts s with
    | none => none
    | some (ts', s') => runSnaps e r ts' s' (s :: acc)

/-- What is looked at is the same at each of these moments. -/
def lookAll (p : PO) (ts : Tr AV) (snaps : List St) (v : AV) : List Nat → Bool
  | [] => true
  | c :: r => (match snaps[c]? with
      | some s => match xop p.op (evOf ts) s with
        | some (u, _) => same u v
        | none => false
      | none => false) && lookAll p ts snaps v r

def lookOk (ops : List PO) (ts : Tr AV) (snaps : List St) (l : Look) : Bool :=
  match ops[l.at_]? with
  | none => false
  | some p => match wantedA p.guard ts with
    | some false => true
    | some true => match p.dst with
      | none => false
      | some d => match ts.get d with
        | none => false
        | some v => lookAll p ts snaps v l.cs
    | none => false

def looksOk (ops : List PO) (ts : Tr AV) (snaps : List St) : List Look → Bool
  | [] => true
  | l :: r => lookOk ops ts snaps l && looksOk ops ts snaps r

def rangeA (e : Eng) (ro : Option Nat) (f : AV) (params : List Nat) (assign body : PC) (ts : Tr AV) (ds : List Nat) (s : St) : Res :=
  match f with
  | .fn (.func g) first captured =>
    match (match ro with
      | none => some ((s.new .defd).next, s.next :: ds, (s.new .defd).new (.loop .ready .normal ts params assign body s.next))
      | some l0 => match s.get l0 with
        | some (.loop _ _ _ _ _ _ d0) => some (s.next, ds, s.new (.loop .ready .normal ts params assign body d0))
        | _ => none) with
    | none => none
    | some (l, ds', s2) => match e.call g (first ++ [.yld l] ++ captured) s2 with
      | none => none
      | some (_, s3) => match s3.get l with
        | some (.loop .busy _ _ _ _ _ _) => none
        | some (.loop _ pend ts2 ps2 a2 b2 d2) => some (pend, ts, ds', s3.put l (.loop .exhausted pend ts2 ps2 a2 b2 d2))
        | _ => none
  | _ => none

def exStep (e : Eng) (ro : Option Nat) (c : PC) (ts : Tr AV) (ds : List Nat) (s : St) : Res :=
  match c with
  | .skip => some (.normal, ts, ds, s)
  | .region ops => match runOps e ops ts s with
    | some (ts', s') => some (.normal, ts', ds, s')
    | none => none
  | .drawn ops looks => match runSnaps e ops ts s [] with
    | some (ts', s', snaps) => if looksOk ops ts' snaps.reverse looks then some (.normal, ts', ds, s') else none
    | none => none
  | .seq a b => match e.ex ro a ts ds s with
    | some (.normal, ts', ds', s') => e.ex ro b ts' ds' s'
    | r => r
  | .cond x a b => match evOf ts x with
    | some (.bool true) => e.ex ro a ts ds s
    | some (.bool false) => e.ex ro b ts ds s
    | _ => none
  | .block id a => match e.ex ro a ts ds s with
    | some (.exit id', ts', ds', s') => some (if id' = id then .normal else .exit id', ts', ds', s')
    | r => r
  | .loop a => match e.ex ro a ts ds s with
    | some (.normal, ts', ds', s') => e.ex ro (.loop a) ts' ds' s'
    | r => r
  | .rangeF f params assign body => match evOf ts f with
    | some fv => rangeA e ro fv params assign body ts ds s
    | none => none
  | .exit id => some (.exit id, ts, ds, s)
  | .ret => some (.ret, ts, ds, s)

def takeAll : List Nat → St → Option St
  | [], s => some s
  | d :: r, s => match s.get d with
    | some .defd => takeAll r (s.drop d)
    | _ => none

def resA (ts : Tr AV) (s : St) : PRes → Option AV
  | .tmp t => ts.get t
  | .cell1 t => match ts.get t with
    | some (.ptr b o) => match s.get b with
      | some (.cells vs _ _ _) => vs[o]?
      | _ => none
    | _ => none
  | .cellN n t => match ts.get t with
    | some (.ptr b o) => match loadA s b o n with
      | some l => some (.agg l)
      | none => none
    | _ => none

def ressA (ts : Tr AV) (s : St) : List PRes → Option (List AV)
  | [] => some []
  | r :: l => match resA ts s r with
    | none => none
    | some v => match ressA ts s l with
      | none => none
      | some vs => some (v :: vs)

def oneA : List AV → AV
  | [v] => v
  | l => .tup l

abbrev Fns := Nat → Option FD
/-- What is known of functions by their contracts. -/
abbrev Sums := Nat → Option (List AV → St → Option (AV × St))

def finish (fd : FD) (r : Res) : Option (AV × St) :=
  match r with
  | some (.exit _, _, _, _) => none
  | some (_, ts, ds, s) => match takeAll ds s with
    | none => none
    | some s' => match ressA ts s' fd.results with
      | none => none
      | some l => some (oneA l, s')
  | none => none

def callStep (FT : Fns) (SM : Sums) (e : Eng) (f : Nat) (args : List AV) (s : St) : Option (AV × St) :=
  match SM f with
  | some g => g args s
  | none => match FT f with
    | none => none
    | some fd => if Nat.ble args.length fd.ntmps then finish fd (e.ex none fd.body (initT 0 args .lf) [] s) else none

/-- The machine, with so much at hand. -/
def eng (FT : Fns) (SM : Sums) : Nat → Eng
  | 0 => ⟨fun _ _ _ => none, fun _ _ _ _ _ => none⟩
  | n + 1 => ⟨callStep FT SM (eng FT SM n), exStep (eng FT SM n)⟩
end
end Go.Proofs.YteiiblpnegjjlaaGreat.D
namespace Go.Proofs.YteiiblpnegjjlaaGreat.D
abbrev kmv (d t : Nat) : PO := ⟨some d, .move (.t t), none⟩
abbrev kmc (d : Nat) (c : AV) : PO := ⟨some d, .move (.c c), none⟩
abbrev kfa (d o t : Nat) : PO := ⟨some d, .fieldAddr o (.t t), none⟩
abbrev kl1 (d t : Nat) : PO := ⟨some d, .load1 (.t t), none⟩
abbrev kln (d n t : Nat) : PO := ⟨some d, .loadN n (.t t), none⟩
abbrev kix (d n t i : Nat) : PO := ⟨some d, .idxSl n (.t t) (.t i), none⟩
abbrev kex (d t n : Nat) : PO := ⟨some d, .extract (.t t) n, none⟩
abbrev knc (d t : Nat) : PO := ⟨some d, .nilCheck (.t t), none⟩
abbrev kst (n a v : Nat) : PO := ⟨none, .store n (.t a) (.t v), none⟩
abbrev kle (d t : Nat) : PO := ⟨some d, .len 1 (.t t), none⟩
abbrev kca (d f : Nat) (l : List X) : PO := ⟨some d, .call (.c (.fn (.func f) [] [])) l, none⟩
abbrev kbt (d : Nat) (b : BinOp) (x y : Nat) : PO := ⟨some d, .bin b .no (.t x) (.t y), none⟩
abbrev kbi (d : Nat) (b : BinOp) (x : Nat) (k : IntKind) (n : Int) : PO := ⟨some d, .bin b .no (.t x) (.c (.int k n)), none⟩
abbrev kn (d : Nat) (p : POp) : PO := ⟨some d, p, none⟩
abbrev kg (d : Nat) (p : POp) (t : Nat) (b : Bool) : PO := ⟨some d, p, some (t, b)⟩
abbrev zi : AV := .int .i64 0
abbrev zb : AV := .int .u8 0
abbrev zw : AV := .int .u32 0
end Go.Proofs.YteiiblpnegjjlaaGreat.D
namespace Go.Proofs.YteiiblpnegjjlaaGreat.D
noncomputable section
def noSums : Sums := fun _ => none
/-- An empty memory. -/
def St.empty : St := { heap := .lf, base := fun _ => none, next := 0 }
def isTrue : Option (AV × St) → Bool
  | some (.bool true, _) => true
  | _ => false
/-- What is known of a check that holds. -/
def aliveSum : List AV → St → Option (AV × St)
  | [], s => some (.bool true, s)
  | _ :: _, _ => none

def addSum (SM : Sums) (f : Nat) (g : List AV → St → Option (AV × St)) : Sums := fun k => if k = f then some g else SM k
def stp (n : Nat) : Nat :=
  match Nat.beq (n / 2147483648) 1 with
  | true => Nat.xor (n * 2 % 4294967296) 79764919
  | false => n * 2 % 4294967296

def stps : Nat → Nat → Nat
  | 0, n => n
  | k + 1, n => stps k (stp n)

def crcStep (s c : Nat) : Nat := stps 8 (Nat.xor s (c * 16777216))
def sumStep (args : List AV) (s : St) : Option (AV × St) :=
  match args with
  | [.int .u32 n, .int .u8 c] => if n < 0 ∨ c < 0 ∨ 4294967296 ≤ n ∨ 256 ≤ c then none else some (.int .u32 (crcStep n.toNat c.toNat : Nat), s)
  | _ => none
/-- Numbers left out. -/
def St.skip (s : St) (k : Nat) : St := { s with next := s.next + k }
end
end Go.Proofs.YteiiblpnegjjlaaGreat.D
namespace Go.Proofs.YteiiblpnegjjlaaGreat.D

def wB : IntKind → Nat
  | .i8 | .u8 => 256
  | .i16 | .u16 => 65536
  | .i32 | .u32 => 4294967296
  | .i64 | .u64 => 18446744073709551616

def wH : IntKind → Nat
  | .i8 => 128
  | .u8 => 256
  | .i16 => 32768
  | .u16 => 65536
  | .i32 => 2147483648
  | .u32 => 4294967296
  | .i64 => 9223372036854775808
  | .u64 => 18446744073709551616

def sgn (B H r : Nat) : Int := match Nat.blt r H with
  | true => .ofNat r
  | false => .negSucc (B - r - 1)

def wrapF (k : IntKind) (n : Int) : Int := match n with
  | .ofNat m => sgn (wB k) (wH k) (m % wB k)
  | .negSucc m => sgn (wB k) (wH k) (wB k - 1 - m % wB k)

theorem sgn_eq {B H r : Nat} (h : r < B) : sgn B H r = if r < H then (r : Int) else (r : Int) - B := by
  unfold sgn
  by_cases e : r < H
  · rw [if_pos e, show Nat.blt r H = true by rw [Nat.blt_eq]; exact e]; rfl
  · rw [if_neg e]
    have : Nat.blt r H = false := by
      cases hb : Nat.blt r H with
      | false => rfl
      | true => rw [Nat.blt_eq] at hb; exact absurd hb e
    rw [this]
    show Int.negSucc (B - r - 1) = _
    omega

theorem wrapF_eq (k : IntKind) (n : Int) : wrapF k n = k.wrap n := by
  have hB : 0 < wB k := by cases k <;> decide
  have key : ∀ r : Nat, r < wB k → (r : Int) = n % (2 ^ k.bits : Int) → sgn (wB k) (wH k) r = k.wrap n := by
    intro r hr he
    rw [sgn_eq hr]
    unfold IntKind.wrap
    simp only [← he]
    cases k <;> simp [IntKind.signed, IntKind.bits, wB, wH] at * <;> omega
  cases n with
  | ofNat m =>
    refine key _ (Nat.mod_lt _ hB) ?_
    cases k <;> simp [IntKind.bits, wB]
  | negSucc m =>
    have hm := Nat.mod_lt m hB
    refine key _ (by omega) ?_
    cases k <;> simp only [IntKind.bits, wB] at * <;> omega

def ltF (a b : Int) : Bool := match a with
  | .ofNat m => match b with
    | .ofNat n => Nat.blt m n
    | .negSucc _ => false
  | .negSucc m => match b with
    | .ofNat _ => true
    | .negSucc n => Nat.blt n m

theorem ltF_eq (a b : Int) : ltF a b = decide (a < b) := by
  apply Bool.eq_iff_iff.2
  rw [decide_eq_true_iff]
  cases a with
  | ofNat m => cases b with
    | ofNat n => simp only [ltF, Int.ofNat_eq_natCast, Nat.blt_eq]; omega
    | negSucc n => simp only [ltF, Int.ofNat_eq_natCast, Bool.false_eq_true, false_iff]; omega
  | negSucc m => cases b with
    | ofNat n => simp only [ltF, Int.ofNat_eq_natCast, true_iff]; omega
    | negSucc n => simp only [ltF, Nat.blt_eq]; omega

def eqF (a b : Int) : Bool := match a with
  | .ofNat m => match b with
    | .ofNat n => Nat.beq m n
    | .negSucc _ => false
  | .negSucc m => match b with
    | .ofNat _ => false
    | .negSucc n => Nat.beq m n

theorem eqF_eq (a b : Int) : eqF a b = (a == b) := by
  apply Bool.eq_iff_iff.2
  rw [beq_iff_eq]
  cases a with
  | ofNat m => cases b with
    | ofNat n => simp only [eqF, Int.ofNat_eq_natCast, Nat.beq_eq]; omega
    | negSucc n => simp only [eqF, Int.ofNat_eq_natCast, Bool.false_eq_true, false_iff]; omega
  | negSucc m => cases b with
    | ofNat n => simp only [eqF, Int.ofNat_eq_natCast, Bool.false_eq_true, false_iff]; omega
    | negSucc n => simp only [eqF, Nat.beq_eq]; omega
end Go.Proofs.YteiiblpnegjjlaaGreat.D
